/- The plain law of ModelRecover: what the printed functions answer, over lists. -/
import Derived.Test.YtochgkepaleblaaRecx7
import Derived.Test.YtochgkepaleblaaRecx6
import Derived.Test.YtochgkepaleblaaRecx5
set_option linter.unusedVariables false
set_option linter.unusedSimpArgs false
namespace Go.Proofs.Ytochgkepaleblaa.RecPure
open Go.RowKit Go.Proofs.YtochgkepaleblaaW.PrintWords Go.Proofs.YtochgkepaleblaaW.PrintLast Go.Proofs.YtochgkepaleblaaW.PrintMore
open Go.Proofs.Ytochgkepaleblaa.Rec Go.Proofs.Ytochgkepaleblaa.Held

theorem ws (i : Nat) (h : i ≤ 100000000) : wrap64 ((i : Int) + 1) = ((i + 1 : Nat) : Int) := by
  unfold wrap64
  omega
theorem drop_cons {α : Type} (l : List α) (z : α) (i : Nat) (h : i < l.length) : l.drop i = l.getD i z :: l.drop (i + 1) := by
  rw [List.drop_eq_getElem_cons h, List.getD_eq_getElem?_getD, List.getElem?_eq_getElem h]
  rfl
theorem take_snoc {α : Type} (l : List α) (z : α) (i : Nat) (h : i < l.length) : l.take i ++ [l.getD i z] = l.take (i + 1) := by
  rw [List.take_succ_eq_append_getElem h, List.getD_eq_getElem?_getD, List.getElem?_eq_getElem h]
  rfl
theorem mem_getD {α : Type} (l : List α) (z : α) (i : Nat) (h : i < l.length) : l.getD i z ∈ l := by
  rw [List.getD_eq_getElem?_getD, List.getElem?_eq_getElem h]
  exact List.getElem_mem h

/-! ### copies -/
theorem copyEntries_l (l : List S66) (hl : l.length ≤ 10000000) (d : Nat) : ∀ (k i : Nat), i ≤ l.length → l.length - i = d → d < k → undercroftref28_copyEntries.l0 k l (l.take i) (i : Int) = some l := by
  induction d with
  | zero =>
    intro k i h1 h2 hk
    obtain ⟨k, rfl⟩ : ∃ m, k = m + 1 := ⟨k - 1, by omega⟩
    simp only [undercroftref28_copyEntries.l0]
    rw [if_neg (by omega), List.take_of_length_le (by omega)]
  | succ d ih =>
    intro k i h1 h2 hk
    obtain ⟨k, rfl⟩ : ∃ m, k = m + 1 := ⟨k - 1, by omega⟩
    simp only [undercroftref28_copyEntries.l0]
    rw [if_pos (by omega), if_pos (by omega), if_pos (by rw [List.length_take]; omega), ws i (by omega)]
    have e : (⟨(rd_T66 l (i : Int)).f0, (rd_T66 l (i : Int)).f1⟩ : S66) = l.getD i z66 := by
      unfold rd_T66
      rw [Int.toNat_natCast]
    rw [e, take_snoc l z66 i (by omega)]
    exact ih k (i + 1) (by omega) (by omega) (by omega)
theorem copyEntries (l : List S66) (hl : l.length ≤ 10000000) (k : Nat) (hk : l.length < k) : undercroftref28_copyEntries.f k l = some l := by
  have := copyEntries_l l hl l.length k 0 (by omega) (by omega) hk
  rw [List.take_zero] at this
  exact this
/-- What a state's items are bounded by. -/
structure Small (l : List S54) : Prop where
  n : l.length ≤ 10000000
  e : ∀ x ∈ l, x.f6.length ≤ 10000000
  h : ∀ x ∈ l, x.f5.length ≤ 10000000
theorem copyHeld (l : List B63) (h : l.length ≤ 10000000) (k : Nat) : undercroftref28_copyHeld.f k l = some l := by
  unfold undercroftref28_copyHeld.f
  rw [if_pos (by omega)]
theorem copy_l (l : List S54) (hs : Small l) (a b c e : Int) (d : Nat) : ∀ (k i : Nat), i ≤ l.length → l.length - i = d → d + 10000001 < k → undercroftref28_Copy.l0 k (i : Int) l a b (l.take i) c e = some (l, c, e) := by
  induction d with
  | zero =>
    intro k i h1 h2 hk
    obtain ⟨k, rfl⟩ : ∃ m, k = m + 1 := ⟨k - 1, by omega⟩
    simp only [undercroftref28_Copy.l0]
    rw [if_neg (by omega), List.take_of_length_le (by omega)]
  | succ d ih =>
    intro k i h1 h2 hk
    obtain ⟨k, rfl⟩ : ∃ m, k = m + 1 := ⟨k - 1, by omega⟩
    have hn := hs.n
    have hm := mem_getD l z54 i (by omega)
    have e1 : rd_T54 l (i : Int) = l.getD i z54 := by
      unfold rd_T54
      rw [Int.toNat_natCast]
    simp only [undercroftref28_Copy.l0]
    rw [if_pos (by omega), if_pos (by omega), e1, copyHeld _ (hs.h _ hm), Option.bind_some, copyEntries _ (hs.e _ hm) k (by have := hs.e _ hm; omega), Option.bind_some, if_pos (by rw [List.length_take]; omega), ws i (by omega)]
    rw [take_snoc l z54 i (by omega)]
    exact ih k (i + 1) (by omega) (by omega) (by omega)
theorem copy (l : List S54) (hs : Small l) (a b : Int) (k : Nat) (hk : 30000000 < k) : undercroftref28_Copy.f k l a b = some (l, a, b) := by
  have hn := hs.n
  have := copy_l l hs a b a b l.length k 0 (by omega) (by omega) (by omega)
  rw [List.take_zero] at this
  exact this

/-! ### without orphans -/
def rec3 : List S54 → List S54 → Int → Int → List S54 × Int × Int
  | [], acc, f, s => (acc, f, s)
  | x :: r, acc, f, s => if x.f2 = 0 then rec3 r acc (wrap64 (f + x.f4)) (wrap64 (s + 1)) else rec3 r (acc ++ [x]) f s
theorem rec3_mem : ∀ (l acc : List S54) (f s : Int) (x : S54), x ∈ (rec3 l acc f s).1 → x ∈ acc ∨ x ∈ l
  | [], acc, f, s, x, h => .inl h
  | y :: r, acc, f, s, x, h => by
    unfold rec3 at h
    split at h
    · rcases rec3_mem r _ _ _ x h with h | h
      · exact .inl h
      · exact .inr (List.mem_cons_of_mem _ h)
    · rcases rec3_mem r _ _ _ x h with h | h
      · rcases List.mem_append.1 h with h | h
        · exact .inl h
        · rw [List.mem_singleton.1 h]
          exact .inr List.mem_cons_self
      · exact .inr (List.mem_cons_of_mem _ h)
theorem rec3_len : ∀ (l acc : List S54) (f s : Int), (rec3 l acc f s).1.length ≤ acc.length + l.length
  | [], acc, f, s => by simp [rec3]
  | y :: r, acc, f, s => by
    unfold rec3
    split
    · have := rec3_len r acc (wrap64 (f + y.f4)) (wrap64 (s + 1))
      simp only [List.length_cons]
      omega
    · have := rec3_len r (acc ++ [y]) f s
      simp only [List.length_append, List.length_cons, List.length_nil] at this ⊢
      omega
theorem small_rec {l : List S54} (hs : Small l) (f s : Int) : Small (rec3 l [] f s).1 := by
  have hm : ∀ x, x ∈ (rec3 l [] f s).1 → x ∈ l := fun x hx => by
    rcases rec3_mem l [] f s x hx with h | h
    · simp at h
    · exact h
  refine ⟨?_, fun x hx => hs.e x (hm x hx), fun x hx => hs.h x (hm x hx)⟩
  have := rec3_len l [] f s
  have hn := hs.n
  simp at this
  omega
theorem copied (x : S54) (hh : x.f5.length ≤ 10000000) (he : x.f6.length ≤ 10000000) : model_copied.f x.f0 x.f1 x.f2 x.f3 x.f4 x.f5 x.f6 = some (x.f0, x.f1, x.f2, x.f3, x.f4, x.f5, x.f6) := by
  unfold model_copied.f
  rw [if_pos (by omega)]
theorem mrec_l (l : List S54) (hs : Small l) (d : Nat) : ∀ (k i : Nat) (acc : List S54) (f s : Int), i ≤ l.length → acc.length ≤ i → l.length - i = d → d < k → model_Recover.l0 k l (l.length : Int) (i : Int) acc f s = some (rec3 (l.drop i) acc f s) := by
  induction d with
  | zero =>
    intro k i acc f s h1 ha h2 hk
    obtain ⟨k, rfl⟩ : ∃ m, k = m + 1 := ⟨k - 1, by omega⟩
    simp only [model_Recover.l0]
    rw [if_neg (by omega), List.drop_of_length_le (by omega)]
    rfl
  | succ d ih =>
    intro k i acc f s h1 ha h2 hk
    obtain ⟨k, rfl⟩ : ∃ m, k = m + 1 := ⟨k - 1, by omega⟩
    have hn := hs.n
    have hm := mem_getD l z54 i (by omega)
    have e1 : rd_T54 l (i : Int) = l.getD i z54 := by
      unfold rd_T54
      rw [Int.toNat_natCast]
    simp only [model_Recover.l0]
    rw [if_pos (by omega), if_pos (by omega), if_pos (by omega), e1, ws i (by omega), drop_cons l z54 i (by omega)]
    unfold rec3
    by_cases hz : (l.getD i z54).f2 = 0
    · rw [if_pos hz, if_pos hz]
      exact ih k (i + 1) acc _ _ (by omega) (by omega) (by omega) (by omega)
    · rw [if_neg hz, if_neg hz, copied _ (hs.h _ hm) (hs.e _ hm), Option.bind_some, if_pos (by omega)]
      exact ih k (i + 1) _ _ _ (by omega) (by rw [List.length_append]; simp; omega) (by omega) (by omega)
theorem mrec (l : List S54) (hs : Small l) (a b : Int) (k : Nat) (hk : 30000000 < k) : model_Recover.f k l a b = some (rec3 l [] a b) := by
  have hn := hs.n
  exact mrec_l l hs l.length k 0 [] a b (by omega) (by simp) (by omega) (by omega)
theorem rrec_l (l : List S54) (hs : Small l) (a b : Int) (d : Nat) : ∀ (k i : Nat) (acc : List S54) (f s : Int), i ≤ l.length → acc.length ≤ i → (∀ x ∈ acc, x ∈ l) → l.length - i = d → d + 30000001 < k → undercroftref28_Recover.l0 k (i : Int) l a b acc f s = some (rec3 (l.drop i) acc f s) := by
  induction d with
  | zero =>
    intro k i acc f s h1 ha hac h2 hk
    obtain ⟨k, rfl⟩ : ∃ m, k = m + 1 := ⟨k - 1, by omega⟩
    have hn := hs.n
    simp only [undercroftref28_Recover.l0]
    rw [if_neg (by omega), List.drop_of_length_le (by omega), copy acc ⟨by omega, fun x hx => hs.e x (hac x hx), fun x hx => hs.h x (hac x hx)⟩ f s k (by omega)]
    rfl
  | succ d ih =>
    intro k i acc f s h1 ha hac h2 hk
    obtain ⟨k, rfl⟩ : ∃ m, k = m + 1 := ⟨k - 1, by omega⟩
    have hn := hs.n
    have hm := mem_getD l z54 i (by omega)
    have e1 : rd_T54 l (i : Int) = l.getD i z54 := by
      unfold rd_T54
      rw [Int.toNat_natCast]
    simp only [undercroftref28_Recover.l0]
    rw [if_pos (by omega), if_pos (by omega), e1, ws i (by omega), drop_cons l z54 i (by omega)]
    unfold rec3
    by_cases hz : (l.getD i z54).f2 = 0
    · rw [if_pos hz, if_pos hz]
      exact ih k (i + 1) acc _ _ (by omega) (by omega) hac (by omega) (by omega)
    · rw [if_neg hz, if_neg hz, if_pos (by omega)]
      refine ih k (i + 1) _ _ _ (by omega) (by rw [List.length_append]; simp; omega) (fun x hx => ?_) (by omega) (by omega)
      rcases List.mem_append.1 hx with h | h
      · exact hac x h
      · rw [List.mem_singleton.1 h]
        exact hm
theorem rrec (l : List S54) (hs : Small l) (a b : Int) (k : Nat) (hk : 50000000 < k) : undercroftref28_Recover.f k l a b = some (rec3 l [] a b) := by
  have hn := hs.n
  exact rrec_l l hs a b l.length k 0 [] a b (by omega) (by simp) (by simp) (by omega) (by omega)

/-! ### the same or not -/
def af (p : Nat → Bool) : Nat → Nat → Bool
  | 0, _ => true
  | d + 1, i => p i && af p d (i + 1)
theorem af_true {p : Nat → Bool} (h : ∀ i, p i = true) : ∀ d i, af p d i = true
  | 0, _ => rfl
  | d + 1, i => by
    unfold af
    rw [h, af_true h]
    rfl
def tE (x y : S66) : Bool := !(x.f0 == y.f0) || !(x.f1.toList == y.f1.toList)
theorem tE_self (x : S66) : tE x x = false := by simp [tE]
def eqE (a b : List S66) : Bool := decide (a.length = b.length) && af (fun j => !tE (a.getD j z66) (b.getD j z66)) a.length 0
theorem eqE_self (a : List S66) : eqE a a = true := by
  unfold eqE
  rw [af_true (fun i => by rw [tE_self]; rfl)]
  simp
theorem sameE_l (a b : List S66) (hl : a.length ≤ 10000000) (hab : a.length = b.length) (d : Nat) : ∀ (k i : Nat), i ≤ a.length → a.length - i = d → d < k → undercroftref28_SameEntries.l0 k a b (i : Int) = some (af (fun j => !tE (a.getD j z66) (b.getD j z66)) d i) := by
  induction d with
  | zero =>
    intro k i h1 h2 hk
    obtain ⟨k, rfl⟩ : ∃ m, k = m + 1 := ⟨k - 1, by omega⟩
    simp only [undercroftref28_SameEntries.l0]
    rw [if_neg (by omega)]
    rfl
  | succ d ih =>
    intro k i h1 h2 hk
    obtain ⟨k, rfl⟩ : ∃ m, k = m + 1 := ⟨k - 1, by omega⟩
    have e1 : ∀ l : List S66, rd_T66 l (i : Int) = l.getD i z66 := fun l => by
      unfold rd_T66
      rw [Int.toNat_natCast]
    simp only [undercroftref28_SameEntries.l0]
    rw [if_pos (by omega), if_pos (by omega), if_pos (by omega), e1, e1, ws i (by omega)]
    unfold af
    change (if tE (a.getD i z66) (b.getD i z66) = true then _ else _) = _
    by_cases ht : tE (a.getD i z66) (b.getD i z66) = true
    · rw [if_pos ht, ht]
      rfl
    · rw [if_neg ht]
      rw [Bool.not_eq_true] at ht
      rw [ht]
      exact ih k (i + 1) (by omega) (by omega) (by omega)
theorem sameE (a b : List S66) (hl : a.length ≤ 10000000) (k : Nat) (hk : 10000000 < k) : undercroftref28_SameEntries.f k a b = some (eqE a b) := by
  unfold undercroftref28_SameEntries.f eqE
  by_cases h : a.length = b.length
  · rw [if_pos (by omega), (show undercroftref28_SameEntries.l0 k a b 0 = _ from sameE_l a b hl h a.length k 0 (by omega) (by omega) (by omega))]
    simp [h]
  · rw [if_neg (by omega)]
    simp [h]
theorem likeE_l (a b : List S66) (hl : a.length ≤ 10000000) (hab : a.length = b.length) (d : Nat) : ∀ (k i : Nat), i ≤ a.length → a.length - i = d → d < k → api_Entry.l0 k a b (a.length : Int) (i : Int) = some (af (fun j => !tE (a.getD j z66) (b.getD j z66)) d i) := by
  induction d with
  | zero =>
    intro k i h1 h2 hk
    obtain ⟨k, rfl⟩ : ∃ m, k = m + 1 := ⟨k - 1, by omega⟩
    simp only [api_Entry.l0]
    rw [if_neg (by omega)]
    rfl
  | succ d ih =>
    intro k i h1 h2 hk
    obtain ⟨k, rfl⟩ : ∃ m, k = m + 1 := ⟨k - 1, by omega⟩
    have e1 : ∀ l : List S66, rd_T66 l (i : Int) = l.getD i z66 := fun l => by
      unfold rd_T66
      rw [Int.toNat_natCast]
    simp only [api_Entry.l0]
    rw [if_pos (by omega), if_pos (by omega), if_pos (by omega), if_pos (by omega), e1, e1, ws i (by omega)]
    unfold af
    change (if tE (a.getD i z66) (b.getD i z66) = true then _ else _) = _
    by_cases ht : tE (a.getD i z66) (b.getD i z66) = true
    · rw [if_pos ht, ht]
      rfl
    · rw [if_neg ht]
      rw [Bool.not_eq_true] at ht
      rw [ht]
      exact ih k (i + 1) (by omega) (by omega) (by omega)
theorem likeE (a b : List S66) (hl : a.length ≤ 10000000) (k : Nat) (hk : 10000000 < k) : api_Entry.f k a b = some (eqE a b) := by
  unfold api_Entry.f eqE
  by_cases h : a.length = b.length
  · rw [if_pos (by omega), (show api_Entry.l0 k a b (a.length : Int) 0 = _ from likeE_l a b hl h a.length k 0 (by omega) (by omega) (by omega))]
    simp [h]
  · rw [if_neg (by omega)]
    simp [h]
def iE (x y : S54) : Bool := if x.f0 = y.f0 then if x.f1 = y.f1 then if x.f2 = y.f2 then if x.f3 = y.f3 then if x.f4 = y.f4 then if x.f5 = y.f5 then eqE x.f6 y.f6 else false else false else false else false else false else false
theorem iE_self (x : S54) : iE x x = true := by simp [iE, eqE_self]
theorem sameItem (x y : S54) (h : x.f6.length ≤ 10000000) (k : Nat) (hk : 10000000 < k) : undercroftref28_SameItem.f k x.f0 x.f1 x.f2 x.f3 x.f4 x.f5 x.f6 y.f0 y.f1 y.f2 y.f3 y.f4 y.f5 y.f6 = some (iE x y) := by
  unfold undercroftref28_SameItem.f iE undercroftref28_SameHeld.f
  rw [sameE _ _ h k hk]
  by_cases h0 : x.f0 = y.f0 <;> by_cases h1 : x.f1 = y.f1 <;> by_cases h2 : x.f2 = y.f2 <;> by_cases h3 : x.f3 = y.f3 <;> by_cases h4 : x.f4 = y.f4 <;> by_cases h5 : x.f5 = y.f5 <;> simp [h0, h1, h2, h3, h4, h5]
def eqS (a : List S54) (f s : Int) (b : List S54) (g t : Int) : Bool := decide (f = g) && (decide (s = t) && (decide (a.length = b.length) && af (fun j => iE (a.getD j z54) (b.getD j z54)) a.length 0))
theorem eqS_self (a : List S54) (f s : Int) : eqS a f s a f s = true := by
  unfold eqS
  rw [af_true (fun i => iE_self _)]
  simp
theorem rsame_l (a b : List S54) (hs : Small a) (hab : a.length = b.length) (u v w y : Int) (d : Nat) : ∀ (k i : Nat), i ≤ a.length → a.length - i = d → d + 10000001 < k → undercroftref28_Same.l0 k (i : Int) a u v b w y = some (af (fun j => iE (a.getD j z54) (b.getD j z54)) d i) := by
  have hn := hs.n
  induction d with
  | zero =>
    intro k i h1 h2 hk
    obtain ⟨k, rfl⟩ : ∃ m, k = m + 1 := ⟨k - 1, by omega⟩
    simp only [undercroftref28_Same.l0]
    rw [if_neg (by omega)]
    rfl
  | succ d ih =>
    intro k i h1 h2 hk
    obtain ⟨k, rfl⟩ : ∃ m, k = m + 1 := ⟨k - 1, by omega⟩
    have e1 : ∀ l : List S54, rd_T54 l (i : Int) = l.getD i z54 := fun l => by
      unfold rd_T54
      rw [Int.toNat_natCast]
    simp only [undercroftref28_Same.l0]
    rw [if_pos (by omega), if_pos (by omega), if_pos (by omega), e1, e1, ws i (by omega), sameItem _ _ (hs.e _ (mem_getD a z54 i (by omega))) k (by omega), Option.bind_some]
    unfold af
    by_cases ht : iE (a.getD i z54) (b.getD i z54) = true
    · rw [if_pos ht, ht]
      exact ih k (i + 1) (by omega) (by omega) (by omega)
    · rw [if_neg ht]
      rw [Bool.not_eq_true] at ht
      rw [ht]
      rfl
theorem rsame (a b : List S54) (hs : Small a) (f s g t : Int) (k : Nat) (hk : 50000000 < k) : undercroftref28_Same.f k a f s b g t = some (eqS a f s b g t) := by
  have hn := hs.n
  obtain ⟨k, rfl⟩ : ∃ m, k = m + 1 := ⟨k - 1, by omega⟩
  unfold undercroftref28_Same.f eqS
  by_cases h1 : f = g
  · by_cases h2 : s = t
    · rw [if_pos h1, if_pos h2]
      simp only [undercroftref28_Same.j0]
      by_cases h3 : a.length = b.length
      · rw [if_neg (by simp [h3]), (show undercroftref28_Same.l0 k 0 a f s b g t = _ from rsame_l a b hs h3 f s g t a.length k 0 (by omega) (by omega) (by omega))]
        simp [h1, h2, h3]
      · rw [if_pos (by rw [bne_iff_ne]; omega)]
        simp [h3]
    · rw [if_pos h1, if_neg h2]
      simp only [undercroftref28_Same.j0]
      simp [h2]
  · rw [if_neg h1]
    simp only [undercroftref28_Same.j0]
    simp [h1]
theorem msame_l (a b : List S54) (hs : Small a) (hab : a.length = b.length) (w y : Int) (d : Nat) : ∀ (k i : Nat), i ≤ a.length → a.length - i = d → d + 10000001 < k → model_Same.l0 k a (a.length : Int) (i : Int) b w y = some (af (fun j => iE (a.getD j z54) (b.getD j z54)) d i) := by
  have hn := hs.n
  induction d with
  | zero =>
    intro k i h1 h2 hk
    obtain ⟨k, rfl⟩ : ∃ m, k = m + 1 := ⟨k - 1, by omega⟩
    simp only [model_Same.l0]
    rw [if_neg (by omega)]
    rfl
  | succ d ih =>
    intro k i h1 h2 hk
    obtain ⟨k, rfl⟩ : ∃ m, k = m + 1 := ⟨k - 1, by omega⟩
    have e1 : ∀ l : List S54, rd_T54 l (i : Int) = l.getD i z54 := fun l => by
      unfold rd_T54
      rw [Int.toNat_natCast]
    simp only [model_Same.l0]
    rw [if_pos (by omega), if_pos (by omega), if_pos (by omega), if_pos (by omega), e1, e1, ws i (by omega)]
    have hi := ih k (i + 1) (by omega) (by omega) (by omega)
    unfold af
    generalize hx : a.getD i z54 = x at *
    have hxm : x.f6.length ≤ 10000000 := by
      rw [← hx]
      exact hs.e _ (mem_getD a z54 i (by omega))
    generalize b.getD i z54 = z at *
    rw [likeE _ _ hxm k (by omega), hi]
    generalize af (fun j => iE (a.getD j z54) (b.getD j z54)) d (i + 1) = T
    unfold iE alike_Held.f
    by_cases h0 : x.f0 = z.f0 <;> by_cases h1 : x.f1 = z.f1 <;> by_cases h2 : x.f2 = z.f2 <;> by_cases h3 : x.f3 = z.f3 <;> by_cases h4 : x.f4 = z.f4 <;> by_cases h5 : x.f5 = z.f5 <;> cases hE : eqE x.f6 z.f6 <;> simp [h0, h1, h2, h3, h4, h5, hE]
theorem msame (a b : List S54) (hs : Small a) (f s g t : Int) (k : Nat) (hk : 50000000 < k) : model_Same.f k a f s b g t = some (eqS a f s b g t) := by
  have hn := hs.n
  obtain ⟨k, rfl⟩ : ∃ m, k = m + 1 := ⟨k - 1, by omega⟩
  unfold model_Same.f eqS
  by_cases h3 : a.length = b.length
  · by_cases h1 : f = g
    · rw [if_pos (by omega), if_pos h1]
      simp only [model_Same.j0]
      by_cases h2 : s = t
      · rw [if_neg (by simp [h2]), (show model_Same.l0 k a (a.length : Int) 0 b g t = _ from msame_l a b hs h3 g t a.length k 0 (by omega) (by omega) (by omega))]
        simp [h1, h2, h3]
      · rw [if_pos (by rw [bne_iff_ne]; exact h2)]
        simp [h2]
    · rw [if_pos (by omega), if_neg h1]
      simp only [model_Same.j0]
      simp [h1]
  · rw [if_neg (by omega)]
    simp only [model_Same.j0]
    simp [h3]
theorem states_l (a : List S24) (hs : ∀ x ∈ a, Small x.f0) (hl : a.length ≤ 10000000) (d : Nat) : ∀ (k i : Nat), i ≤ a.length → a.length - i = d → d + 50000001 < k → undercroftref28_SameStates.l0 k a a (i : Int) = some true := by
  induction d with
  | zero =>
    intro k i h1 h2 hk
    obtain ⟨k, rfl⟩ : ∃ m, k = m + 1 := ⟨k - 1, by omega⟩
    simp only [undercroftref28_SameStates.l0]
    rw [if_neg (by omega)]
  | succ d ih =>
    intro k i h1 h2 hk
    obtain ⟨k, rfl⟩ : ∃ m, k = m + 1 := ⟨k - 1, by omega⟩
    have e1 : ∀ l : List S24, rd_T24 l (i : Int) = l.getD i z24 := fun l => by
      unfold rd_T24
      rw [Int.toNat_natCast]
    simp only [undercroftref28_SameStates.l0]
    rw [if_pos (by omega), if_pos (by omega), if_pos (by omega), e1, ws i (by omega), rsame _ _ (hs _ (mem_getD a z24 i (by omega))) _ _ _ _ k (by omega), Option.bind_some, eqS_self, if_pos rfl]
    exact ih k (i + 1) (by omega) (by omega) (by omega)
theorem states (a : List S24) (hs : ∀ x ∈ a, Small x.f0) (hl : a.length ≤ 10000000) (k : Nat) (hk : 70000000 < k) : undercroftref28_SameStates.f k a a = some true := by
  unfold undercroftref28_SameStates.f
  rw [if_pos rfl]
  exact states_l a hs hl a.length k 0 (by omega) (by omega) (by omega)
end Go.Proofs.Ytochgkepaleblaa.RecPure
