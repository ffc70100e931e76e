/- The plain law of paths: what Parse, SameTexts, Special and Join compute, over lists of bytes. -/
import Derived.Test.YtochgkepaleblaaBasex
import Derived.Test.YtochgkepaleblaaHand
set_option linter.unusedVariables false
namespace Go.Proofs.Ytochgkepaleblaa.Plain
open Go.RowKit Go.Proofs.Ytochgkepaleblaa.Base Go.Proofs.Ytochgkepaleblaa.Hand Go.Proofs.YtochgkepaleblaaW.PrintWords Go.Proofs.YtochgkepaleblaaW.PrintLast

def mk (l : List UInt8) : ByteArray := ⟨l.toArray⟩
theorem mk_data (b : ByteArray) : mk b.data.toList = b := by unfold mk; rw [Array.toArray_toList]
theorem data_mk (l : List UInt8) : (mk l).data.toList = l := rfl
theorem mk_size (l : List UInt8) : (mk l).size = l.length := rfl
theorem toList_mk (l : List UInt8) : (mk l).toList = l := ByteArray.toList_mk l
theorem mk_inj {a b : List UInt8} (h : mk a = mk b) : a = b := by rw [← data_mk a, h, data_mk]
theorem mk_app (a b : List UInt8) : mk a ++ mk b = mk (a ++ b) := by
  rw [ByteArray.ext_iff]
  apply Array.ext'
  simp [mk, ByteArray.data_append]
theorem size_list (b : ByteArray) : b.size = b.data.toList.length := rfl

def fin (acc : List (List UInt8)) (long : Bool) : List (List UInt8) × Int := if long = true then ([], 12) else (acc, 0)
def cut : List UInt8 → List UInt8 → List (List UInt8) → Bool → List (List UInt8) × Int
  | [], cur, acc, long => if cur = [] then fin acc long else fin (acc ++ [cur]) (long || decide (14 < cur.length))
  | c :: r, cur, acc, long =>
    if c = 0 then ([], 4)
    else if c = 47 then (if cur = [] then cut r [] acc long else cut r [] (acc ++ [cur]) (long || decide (14 < cur.length)))
    else cut r (cur ++ [c]) acc long
def parse (l : List UInt8) : List (List UInt8) × Int :=
  if l = [] then ([], 4) else if l.head? = some 47 then (if 1024 < l.length then ([], 4) else cut l [] [] false) else ([], 4)

def up (x : List (List UInt8) × Int) : List ByteArray × Int := (x.1.map mk, x.2)

theorem bt_get (s : ByteArray) (i : Nat) (h : i < s.data.toList.length) : bt s (i : Int) = ((s.data.toList[i]).toNat : Int) := by
  have hs : i < s.size := by rw [size_list]; exact h
  unfold bt
  rw [dif_pos (by simpa using hs)]
  rfl
theorem byte0 (c : UInt8) : ((c.toNat : Int) = 0) ↔ c = 0 := by
  constructor
  · intro h
    apply UInt8.toNat_inj.1
    simpa using h
  · rintro rfl
    rfl
theorem byte47 (c : UInt8) : ((c.toNat : Int) = 47) ↔ c = 47 := by
  constructor
  · intro h
    apply UInt8.toNat_inj.1
    have : c.toNat = 47 := by omega
    simpa using this
  · rintro rfl
    rfl
theorem extract_mk (s : ByteArray) (a b : Nat) (hab : a ≤ b) (hb : b ≤ s.size) : s.extract a b = mk ((s.data.toList.drop a).take (b - a)) := by
  rw [ByteArray.ext_iff]
  apply Array.ext'
  simp [mk, ByteArray.data_extract, List.extract_eq_take_drop]
theorem wrap_small {i : Int} (h0 : -9223372036854775808 ≤ i) (h1 : i ≤ 9223372036854775807) : wrap64 i = i := by unfold wrap64; omega
theorem Ev.of_eq {α : Type} {g : Nat → Option α} {r r' : α} (h : Ev g r) (e : r = r') : Ev g r' := e ▸ h

/-- The pending piece. -/
def pend (l : List UInt8) (a b : Nat) : List UInt8 := (l.drop a).take (b - a)
theorem pend_same (l : List UInt8) (a : Nat) : pend l a a = [] := by simp [pend]
theorem pend_len (l : List UInt8) (a b : Nat) (hab : a ≤ b) (hb : b ≤ l.length) : (pend l a b).length = b - a := by
  simp [pend]; omega
theorem pend_succ (l : List UInt8) (a b : Nat) (hab : a ≤ b) (hb : b < l.length) : pend l a (b + 1) = pend l a b ++ [l[b]] := by
  unfold pend
  rw [show b + 1 - a = (b - a) + 1 from by omega, List.take_succ_eq_append_getElem (by simp; omega)]
  simp [show a + (b - a) = b from by omega]

set_option maxRecDepth 10000 in
theorem l0_ev (s : ByteArray) (hs : s.size ≤ 1024) (d : Nat) : ∀ (i a : Nat) (acc : List (List UInt8)) (long : Bool), a ≤ i → i + d = s.size → acc.length ≤ i →
    Ev (fun k => route_Parse.l0 k s (acc.map mk) long (a : Int) (i : Int)) (up (cut (s.data.toList.drop i) (pend s.data.toList a i) acc long)) := by
  have hsl := size_list s
  induction d with
  | zero =>
    intro i a acc long ha hi hacc
    have hi' : i = s.size := by omega
    have hdrop : s.data.toList.drop i = [] := by rw [List.drop_eq_nil_iff]; omega
    have hpl := pend_len s.data.toList a i ha (by omega)
    have hend : ∀ (acc' : List (List UInt8)) (lg : Bool) (b : Int), Ev (fun k => route_Parse.l0 k s (acc'.map mk) lg b ((i : Int) + 1)) (up (fin acc' lg)) := by
      intro acc' lg b
      refine Ev.step (f := fun _ => some (up (fin acc' lg))) (fun k => ?_) (Ev.now _)
      simp only [route_Parse.l0]
      rw [if_neg (by omega)]
      unfold fin
      cases lg <;> simp [up]
    refine Ev.step (f := fun k => route_Parse.j2 k s (acc.map mk) long (a : Int) (i : Int) false) (fun k => ?_) ?_
    · simp only [route_Parse.l0]
      rw [if_pos (by omega), if_neg (by omega)]
    refine Ev.step (f := fun k => route_Parse.j3 k s (acc.map mk) long (a : Int) (i : Int) false) (fun k => ?_) ?_
    · simp only [route_Parse.j2]
      rw [if_neg (by simp), if_neg (by omega)]
    rw [hdrop]
    by_cases hai : a < i
    · have hne : pend s.data.toList a i ≠ [] := by
        intro h
        rw [h] at hpl
        simp at hpl
        omega
      refine Ev.step (f := fun k => route_Parse.l0 k s ((acc ++ [pend s.data.toList a i]).map mk) (long || decide (14 < (pend s.data.toList a i).length)) ((i : Int) + 1) ((i : Int) + 1)) (fun k => ?_) ?_
      · simp only [route_Parse.j3]
        rw [if_neg (by simp), if_pos (by omega), if_pos (by omega), if_pos (by omega), if_pos (by omega), if_pos (by rw [List.length_map]; omega)]
        simp only [Option.bind_some, Int.toNat_natCast]
        rw [extract_mk s a i ha (by omega), wrap_small (i := (i : Int) + 1) (by omega) (by omega), wrap_small (i := (i : Int) - a) (by omega) (by omega), hpl]
        cases long
        · simp only [Bool.false_or, Bool.false_eq_true, if_false, List.map_append, List.map_cons, List.map_nil]
          have hdd : decide ((i : Int) - a > 14) = decide (14 < i - a) := by
            by_cases h : 14 < i - a
            · rw [decide_eq_true h, decide_eq_true (by omega)]
            · rw [decide_eq_false h, decide_eq_false (by omega)]
          rw [hdd]
          rfl
        · simp [List.map_append]
          rfl
      · simp only [cut]
        rw [if_neg hne]
        exact hend _ _ _
    · have e : a = i := by omega
      subst e
      refine Ev.step (f := fun k => route_Parse.l0 k s (acc.map mk) long ((a : Int) + 1) ((a : Int) + 1)) (fun k => ?_) ?_
      · simp only [route_Parse.j3]
        rw [if_neg (by simp), if_neg (by omega), wrap_small (i := (a : Int) + 1) (by omega) (by omega)]
      · simp only [cut]
        rw [if_pos (pend_same _ _)]
        exact hend _ _ _
  | succ d ih =>
    intro i a acc long ha hi hacc
    have hlt : i < s.data.toList.length := by omega
    have hdrop : s.data.toList.drop i = s.data.toList[i] :: s.data.toList.drop (i + 1) := List.drop_eq_getElem_cons hlt
    have hb := bt_get s i hlt
    have hpl := pend_len s.data.toList a i ha (by omega)
    refine Ev.step (f := fun k => route_Parse.j2 k s (acc.map mk) long (a : Int) (i : Int) ((bt s (i : Int)) == 0)) (fun k => ?_) ?_
    · simp only [route_Parse.l0]
      rw [if_pos (by omega), if_pos (by omega), if_pos (by omega)]
    rw [hdrop]
    simp only [cut]
    by_cases c0 : s.data.toList[i] = 0
    · rw [if_pos c0]
      refine Ev.step (f := fun _ => some (up ([], 4))) (fun k => ?_) (Ev.now _)
      simp only [route_Parse.j2]
      rw [if_pos (by rw [beq_iff_eq, hb, byte0]; exact c0)]
      rfl
    rw [if_neg c0]
    refine Ev.step (f := fun k => route_Parse.j3 k s (acc.map mk) long (a : Int) (i : Int) ((bt s (i : Int)) != 47)) (fun k => ?_) ?_
    · simp only [route_Parse.j2]
      rw [if_neg (by rw [beq_iff_eq, hb, byte0]; exact c0), if_pos (by omega), if_pos (by omega)]
    by_cases c47 : s.data.toList[i] = 47
    · rw [if_pos c47]
      have hbf : (bt s (i : Int) != 47) = false := by rw [bne_eq_false_iff_eq, hb, byte47]; exact c47
      rw [hbf]
      have ihn := fun acc' lg h => ih (i + 1) (i + 1) acc' lg (Nat.le_refl _) (by omega) h
      simp only [pend_same] at ihn
      by_cases hai : a < i
      · have hne : pend s.data.toList a i ≠ [] := by
          intro h
          rw [h] at hpl
          simp at hpl
          omega
        rw [if_neg hne]
        refine Ev.step (f := fun k => route_Parse.l0 k s ((acc ++ [pend s.data.toList a i]).map mk) (long || decide (14 < (pend s.data.toList a i).length)) ((i + 1 : Nat) : Int) ((i + 1 : Nat) : Int)) (fun k => ?_) (ihn _ _ (by simp; omega))
        simp only [route_Parse.j3]
        rw [if_neg (by simp), if_pos (by omega), if_pos (by omega), if_pos (by omega), if_pos (by omega), if_pos (by rw [List.length_map]; omega)]
        simp only [Option.bind_some, Int.toNat_natCast]
        rw [extract_mk s a i ha (by omega), wrap_small (i := (i : Int) + 1) (by omega) (by omega), wrap_small (i := (i : Int) - a) (by omega) (by omega), hpl]
        cases long
        · simp only [Bool.false_or, Bool.false_eq_true, if_false, List.map_append, List.map_cons, List.map_nil]
          have hdd : decide ((i : Int) - a > 14) = decide (14 < i - a) := by
            by_cases h : 14 < i - a
            · rw [decide_eq_true h, decide_eq_true (by omega)]
            · rw [decide_eq_false h, decide_eq_false (by omega)]
          rw [hdd]
          rfl
        · simp [List.map_append]
          rfl
      · have e : a = i := by omega
        subst e
        rw [if_pos (pend_same _ _)]
        refine Ev.step (f := fun k => route_Parse.l0 k s (acc.map mk) long ((a + 1 : Nat) : Int) ((a + 1 : Nat) : Int)) (fun k => ?_) (ihn _ _ (by omega))
        simp only [route_Parse.j3]
        rw [if_neg (by simp), if_neg (by omega), wrap_small (i := (a : Int) + 1) (by omega) (by omega)]
        rfl
    · rw [if_neg c47]
      have hbf : (bt s (i : Int) != 47) = true := by rw [bne_iff_ne, Ne, hb, byte47]; exact c47
      rw [hbf]
      rw [← pend_succ s.data.toList a i ha hlt]
      refine Ev.step (f := fun k => route_Parse.l0 k s (acc.map mk) long (a : Int) ((i + 1 : Nat) : Int)) (fun k => ?_) (ih (i + 1) a acc long (by omega) (by omega) (by omega))
      simp only [route_Parse.j3]
      rw [if_pos trivial, wrap_small (i := (i : Int) + 1) (by omega) (by omega)]
      rfl

theorem parse_ev (s : ByteArray) (hs : s.size ≤ 140737488351232) : Ev (fun k => route_Parse.f k s) (up (parse s.data.toList)) := by
  have hsl := size_list s
  unfold parse
  have hj : Ev (fun k => route_Parse.j0 k s true) (up (([] : List (List UInt8)), 4)) := by
    refine Ev.step (f := fun _ => some (up (([] : List (List UInt8)), 4))) (fun k => ?_) (Ev.now _)
    simp only [route_Parse.j0]
    rfl
  by_cases h0 : s.data.toList = []
  · rw [if_pos h0]
    refine Ev.congr (f := fun k => route_Parse.j0 k s true) (fun k => ?_) hj
    unfold route_Parse.f
    rw [if_pos (by rw [ByteArray.toList_eq]; exact h0)]
  rw [if_neg h0]
  have hpos : 0 < s.data.toList.length := List.length_pos_iff.2 h0
  have hh : s.data.toList.head? = some (s.data.toList[0]) := by rw [List.head?_eq_getElem?, List.getElem?_eq_getElem hpos]
  have hb := bt_get s 0 hpos
  rw [hh]
  have hun : ∀ k, route_Parse.f k s = if (bt s 0) = 47 then (route_Parse.j0 k s (decide ((s.size : Int) > 1024))) else (route_Parse.j0 k s true) := by
    intro k
    unfold route_Parse.f
    rw [if_neg (by rw [ByteArray.toList_eq]; exact h0), if_pos (by omega)]
  by_cases h1 : s.data.toList[0] = 47
  · rw [if_pos (by rw [h1])]
    have hb47 : bt s 0 = 47 := by
      have : bt s 0 = ((s.data.toList[0]).toNat : Int) := hb
      rw [this, byte47]
      exact h1
    by_cases h2 : 1024 < s.data.toList.length
    · rw [if_pos h2]
      refine Ev.congr (f := fun k => route_Parse.j0 k s true) (fun k => ?_) hj
      rw [hun, if_pos hb47, decide_eq_true (by omega)]
    · rw [if_neg h2]
      refine Ev.congr (f := fun k => route_Parse.j0 k s false) (fun k => ?_) ?_
      · rw [hun, if_pos hb47, decide_eq_false (by omega)]
      refine Ev.step (f := fun k => route_Parse.l0 k s ([] : List ByteArray) false 0 0) (fun k => ?_) ?_
      · simp only [route_Parse.j0]
        rw [if_neg (by simp)]
      have := l0_ev s (by omega) s.size 0 0 [] false (by omega) (by omega) (by simp)
      simpa [pend_same] using this
  · rw [if_neg (by simpa using h1)]
    refine Ev.congr (f := fun k => route_Parse.j0 k s true) (fun k => ?_) hj
    rw [hun, if_neg]
    have : bt s 0 = ((s.data.toList[0]).toNat : Int) := hb
    rw [this, byte47]
    exact h1

/-! ### The pieces -/
def pcs : List UInt8 → List UInt8 → List (List UInt8)
  | [], cur => if cur = [] then [] else [cur]
  | c :: r, cur => if c = 47 then (if cur = [] then pcs r [] else cur :: pcs r []) else pcs r (cur ++ [c])
def isLong (l : List (List UInt8)) : Bool := l.any (fun x => decide (14 < x.length))

theorem cut_eq (l : List UInt8) : ∀ (cur : List UInt8) (acc : List (List UInt8)) (long : Bool),
    cut l cur acc long = if 0 ∈ l then ([], 4) else fin (acc ++ pcs l cur) (long || isLong (pcs l cur)) := by
  induction l with
  | nil =>
    intro cur acc long
    simp only [cut, pcs]
    by_cases h : cur = [] <;> simp [h, isLong]
  | cons c r ih =>
    intro cur acc long
    simp only [cut, pcs]
    by_cases c0 : c = 0
    · simp [c0]
    rw [if_neg c0]
    have hm : (0 ∈ c :: r) ↔ 0 ∈ r := by
      rw [List.mem_cons]
      constructor
      · rintro (h | h)
        · exact absurd h.symm c0
        · exact h
      · exact Or.inr
    by_cases c47 : c = 47
    · rw [if_pos c47, if_pos c47]
      by_cases hc : cur = []
      · rw [if_pos hc, if_pos hc, ih]
        simp only [hm]
      · rw [if_neg hc, if_neg hc, ih]
        simp only [hm, List.append_assoc, List.singleton_append, isLong, List.any_cons, Bool.or_assoc]
    · rw [if_neg c47, if_neg c47, ih]
      simp only [hm]

theorem pcs_app (l m : List UInt8) : ∀ cur, pcs (l ++ 47 :: m) cur = pcs l cur ++ pcs m [] := by
  induction l with
  | nil =>
    intro cur
    simp only [List.nil_append, pcs, if_true]
    by_cases h : cur = [] <;> simp [h]
  | cons c r ih =>
    intro cur
    simp only [List.cons_append, pcs]
    by_cases c47 : c = 47
    · rw [if_pos c47, if_pos c47]
      by_cases hc : cur = []
      · rw [if_pos hc, if_pos hc, ih]
      · rw [if_neg hc, if_neg hc, ih, List.cons_append]
    · rw [if_neg c47, if_neg c47, ih]
theorem pcs_stroke (m : List UInt8) : pcs (47 :: m) [] = pcs m [] := by simp [pcs]
theorem pcs_plain (x : List UInt8) : ∀ cur, 47 ∉ x → cur ++ x ≠ [] → pcs x cur = [cur ++ x] := by
  induction x with
  | nil =>
    intro cur _ h
    simp only [pcs]
    rw [if_neg (by simpa using h)]
    simp
  | cons c r ih =>
    intro cur h47 h
    simp only [pcs]
    rw [if_neg (by rintro rfl; exact h47 List.mem_cons_self), ih _ (fun hm => h47 (List.mem_cons_of_mem _ hm)) (by simp)]
    simp
def flat (l : List (List UInt8)) : List UInt8 := (l.map (fun x => 47 :: x)).flatten
theorem flat_cons (x : List UInt8) (l : List (List UInt8)) : flat (x :: l) = 47 :: x ++ flat l := by simp [flat]
def Plain (x : List UInt8) : Prop := x ≠ [] ∧ 47 ∉ x ∧ 0 ∉ x
theorem pcs_flat (l : List (List UInt8)) (h : ∀ x ∈ l, Plain x) : pcs (flat l) [] = l := by
  induction l with
  | nil => rfl
  | cons x l ih =>
    have hx := h x List.mem_cons_self
    have hl := ih (fun y hy => h y (List.mem_cons_of_mem _ hy))
    rw [flat_cons, List.cons_append, pcs_stroke]
    cases l with
    | nil =>
      simp only [flat, List.map_nil, List.flatten_nil, List.append_nil]
      rw [pcs_plain x [] hx.2.1 (by simpa using hx.1)]
      rfl
    | cons y l =>
      rw [flat_cons, List.cons_append] at hl ⊢
      rw [pcs_app, pcs_plain x [] hx.2.1 (by simpa using hx.1)]
      rw [pcs_stroke] at hl
      rw [hl]
      rfl
theorem flat_zero (l : List (List UInt8)) (h : ∀ x ∈ l, Plain x) : 0 ∉ flat l := by
  intro h0
  unfold flat at h0
  rw [List.mem_flatten] at h0
  obtain ⟨y, hy, h0⟩ := h0
  rw [List.mem_map] at hy
  obtain ⟨x, hx, rfl⟩ := hy
  rcases List.mem_cons.1 h0 with h0 | h0
  · exact absurd h0 (by decide)
  · exact (h x hx).2.2 h0
theorem pcs_all (l : List UInt8) : ∀ cur, 0 ∉ l → 0 ∉ cur → 47 ∉ cur → ∀ x ∈ pcs l cur, Plain x := by
  induction l with
  | nil =>
    intro cur _ h0 h47 x hx
    simp only [pcs] at hx
    by_cases h : cur = []
    · rw [if_pos h] at hx
      cases hx
    · rw [if_neg h] at hx
      rw [List.mem_singleton.1 hx]
      exact ⟨h, h47, h0⟩
  | cons c r ih =>
    intro cur hz h0 h47 x hx
    have hr : 0 ∉ r := fun h => hz (List.mem_cons_of_mem _ h)
    have hc : (0 : UInt8) ≠ c := fun h => hz (h ▸ List.mem_cons_self)
    simp only [pcs] at hx
    by_cases c47 : c = 47
    · rw [if_pos c47] at hx
      by_cases h : cur = []
      · rw [if_pos h] at hx
        exact ih [] hr (by simp) (by simp) x hx
      · rw [if_neg h] at hx
        rcases List.mem_cons.1 hx with hx | hx
        · rw [hx]
          exact ⟨h, h47, h0⟩
        · exact ih [] hr (by simp) (by simp) x hx
    · rw [if_neg c47] at hx
      refine ih (cur ++ [c]) hr ?_ ?_ x hx
      · simp [h0, hc]
      · simp only [List.mem_append, List.mem_singleton, not_or]
        exact ⟨h47, fun h => c47 h.symm⟩
theorem flat_len (l : List UInt8) : ∀ cur, (flat (pcs l cur)).length ≤ l.length + 1 + cur.length := by
  induction l with
  | nil =>
    intro cur
    simp only [pcs]
    by_cases h : cur = []
    · simp [h, flat]
    · simp [h, flat]
      omega
  | cons c r ih =>
    intro cur
    simp only [pcs]
    have h1 := ih []
    have h2 := ih (cur ++ [c])
    simp only [List.length_append, List.length_cons, List.length_nil] at h1 h2 ⊢
    by_cases c47 : c = 47
    · rw [if_pos c47]
      by_cases h : cur = []
      · rw [if_pos h]
        omega
      · rw [if_neg h, flat_cons]
        simp only [List.length_append, List.length_cons]
        omega
    · rw [if_neg c47]
      omega
theorem flat_len_names (l : List (List UInt8)) (h : ∀ x ∈ l, x.length ≤ 14) : (flat l).length ≤ 15 * l.length := by
  induction l with
  | nil => simp [flat]
  | cons x l ih =>
    rw [flat_cons]
    have := ih (fun y hy => h y (List.mem_cons_of_mem _ hy))
    have := h x List.mem_cons_self
    simp only [List.length_append, List.length_cons]
    omega

/-- A path that may be. -/
structure Good (p : List UInt8) (l : List (List UInt8)) : Prop where
  slash : ∃ r, p = 47 :: r
  len : p.length ≤ 1024
  zero : 0 ∉ p
  names : pcs p [] = l
  short : isLong l = false
theorem parse_good {p : List UInt8} {l : List (List UInt8)} (h : Good p l) : parse p = (l, 0) := by
  obtain ⟨r, rfl⟩ := h.slash
  unfold parse
  rw [if_neg (by simp), if_pos (by rfl), if_neg (by have := h.len; omega), cut_eq, if_neg h.zero, h.names, h.short]
  rfl
theorem good_parse {p : List UInt8} (h : (parse p).2 = 0) : Good p (parse p).1 := by
  unfold parse at h ⊢
  by_cases h0 : p = []
  · rw [if_pos h0] at h
    exact absurd h (by simp)
  rw [if_neg h0] at h ⊢
  by_cases h1 : p.head? = some 47
  · rw [if_pos h1] at h ⊢
    by_cases h2 : 1024 < p.length
    · rw [if_pos h2] at h
      exact absurd h (by simp)
    rw [if_neg h2] at h ⊢
    rw [cut_eq] at h ⊢
    by_cases h3 : 0 ∈ p
    · rw [if_pos h3] at h
      exact absurd h (by simp)
    rw [if_neg h3] at h ⊢
    unfold fin at h ⊢
    by_cases h4 : (false || isLong (pcs p [])) = true
    · rw [if_pos h4] at h
      exact absurd h (by simp)
    · rw [if_neg h4]
      refine ⟨?_, by omega, h3, rfl, by simpa using h4⟩
      cases p with
      | nil => exact absurd rfl h0
      | cons c r =>
        refine ⟨r, ?_⟩
        simp at h1
        rw [h1]
  · rw [if_neg h1] at h
    exact absurd h (by simp)
theorem parse_none {p : List UInt8} (h : (parse p).2 ≠ 0) : (parse p).1 = [] := by
  unfold parse at h ⊢
  split
  · rfl
  · split
    · split
      · rfl
      · rw [if_neg ‹_›, if_pos ‹_›, if_neg ‹_›] at h
        rw [cut_eq] at h ⊢
        split
        · rfl
        · rw [if_neg ‹_›] at h
          unfold fin at h ⊢
          split
          · rfl
          · rw [if_neg ‹_›] at h
            exact absurd rfl h
    · rfl
theorem parse_far {p : List UInt8} (h : 1024 < p.length) : (parse p).2 = 4 := by
  unfold parse
  split
  · rfl
  · split
    · rfl
    · rfl
theorem isLong_app (a b : List (List UInt8)) : isLong (a ++ b) = (isLong a || isLong b) := by simp [isLong, List.any_append]
theorem good_behind {p q : List UInt8} {a b : List (List UInt8)} (hp : Good p a) (hq : Good q b) (h : p.length + q.length ≤ 1024) : Good (p ++ q) (a ++ b) := by
  obtain ⟨r, hr⟩ := hp.slash
  obtain ⟨s, hs⟩ := hq.slash
  refine ⟨⟨r ++ q, by rw [hr]; rfl⟩, by simpa using h, ?_, ?_, ?_⟩
  · rw [List.mem_append]
    rintro (h | h)
    · exact hp.zero h
    · exact hq.zero h
  · have := hq.names
    rw [hs] at this ⊢
    rw [pcs_app, hp.names, ← this, pcs_stroke]
  · rw [isLong_app, hp.short, hq.short]
    rfl
theorem good_ahead {p : List UInt8} {a : List (List UInt8)} (hp : Good p a) (h : p.length < 1024) : Good (47 :: p) a := by
  refine ⟨⟨p, rfl⟩, by simp; omega, ?_, by rw [pcs_stroke]; exact hp.names, hp.short⟩
  rw [List.mem_cons]
  rintro (h | h)
  · exact absurd h (by decide)
  · exact hp.zero h
theorem good_end {p : List UInt8} {a : List (List UInt8)} (hp : Good p a) (h : p.length < 1024) : Good (p ++ [47]) a := by
  obtain ⟨r, hr⟩ := hp.slash
  refine ⟨⟨r ++ [47], by rw [hr]; rfl⟩, by simp; omega, ?_, ?_, hp.short⟩
  · rw [List.mem_append]
    rintro (h | h)
    · exact hp.zero h
    · exact absurd (List.mem_singleton.1 h) (by decide)
  · rw [pcs_app, hp.names]
    simp [pcs]
/-- The names' path. -/
def path (l : List (List UInt8)) : List UInt8 := if l = [] then [47] else flat l
theorem good_path {l : List (List UInt8)} (h : ∀ x ∈ l, Plain x ∧ x.length ≤ 14) (hlen : (path l).length ≤ 1024) : Good (path l) l := by
  have hl : isLong l = false := by
    unfold isLong
    rw [List.any_eq_false]
    intro x hx
    have := (h x hx).2
    simp
    omega
  unfold path at hlen ⊢
  by_cases e : l = []
  · subst e
    exact ⟨⟨[], rfl⟩, by simp, by decide, rfl, rfl⟩
  · rw [if_neg e] at hlen ⊢
    refine ⟨?_, hlen, flat_zero l (fun x hx => (h x hx).1), pcs_flat l (fun x hx => (h x hx).1), hl⟩
    cases l with
    | nil => exact absurd rfl e
    | cons x l => exact ⟨x ++ flat l, by rw [flat_cons]; rfl⟩
theorem good_plain {p : List UInt8} {l : List (List UInt8)} (h : Good p l) : ∀ x ∈ l, Plain x ∧ x.length ≤ 14 := by
  intro x hx
  have h1 := pcs_all p [] h.zero (by simp) (by simp) x (by rw [h.names]; exact hx)
  refine ⟨h1, ?_⟩
  have := h.short
  unfold isLong at this
  rw [List.any_eq_false] at this
  have := this x hx
  simp at this
  omega
theorem good_path_len {p : List UInt8} {l : List (List UInt8)} (h : Good p l) : (path l).length ≤ p.length := by
  obtain ⟨r, rfl⟩ := h.slash
  have h1 := flat_len r []
  have h2 := h.names
  rw [pcs_stroke] at h2
  rw [h2] at h1
  unfold path
  split
  · simp
  · simpa using h1

/-! ### The printed functions -/
theorem rd_map (l : List (List UInt8)) (i : Nat) (h : i < l.length) : rdOf ByteArray.empty (l.map mk) (i : Int) = mk l[i] := by
  unfold rdOf
  rw [Int.toNat_natCast, List.getD_eq_getElem?_getD, List.getElem?_map, List.getElem?_eq_getElem h]
  rfl
theorem same_l0 (a b : List (List UInt8)) (hab : a.length = b.length) (hl : a.length ≤ 9223372036854775806) (d : Nat) : ∀ i, i + d = a.length → a.take i = b.take i →
    Ev (fun k => undercroftkit_SameTexts.l0 k (a.map mk) (b.map mk) (i : Int)) (decide (a = b)) := by
  induction d with
  | zero =>
    intro i hi ht
    have e : a = b := by
      have h1 : a.take i = a := List.take_of_length_le (by omega)
      have h2 : b.take i = b := List.take_of_length_le (by omega)
      rw [← h1, ← h2]
      exact ht
    refine Ev.step (f := fun _ => some (decide (a = b))) (fun k => ?_) (Ev.now _)
    simp only [undercroftkit_SameTexts.l0]
    rw [if_neg (by rw [List.length_map]; omega), decide_eq_true e]
  | succ d ih =>
    intro i hi ht
    have hia : i < a.length := by omega
    have hib : i < b.length := by omega
    by_cases e : a[i] = b[i]
    · refine Ev.step (f := fun k => undercroftkit_SameTexts.l0 k (a.map mk) (b.map mk) ((i + 1 : Nat) : Int)) (fun k => ?_) (ih (i + 1) (by omega) ?_)
      · simp only [undercroftkit_SameTexts.l0]
        rw [if_pos (by rw [List.length_map]; omega), if_pos (by omega), if_pos (by rw [List.length_map]; omega), rd_map a i hia, rd_map b i hib, if_pos (by rw [e]), wrap_small (by omega) (by omega)]
        rfl
      · rw [List.take_succ_eq_append_getElem hia, List.take_succ_eq_append_getElem hib, ht, e]
    · refine Ev.step (f := fun _ => some (decide (a = b))) (fun k => ?_) (Ev.now _)
      simp only [undercroftkit_SameTexts.l0]
      rw [if_pos (by rw [List.length_map]; omega), if_pos (by omega), if_pos (by rw [List.length_map]; omega), rd_map a i hia, rd_map b i hib, if_neg (by rw [toList_mk, toList_mk]; exact e), decide_eq_false (by rintro rfl; exact e rfl)]
theorem same_ev (a b : List (List UInt8)) (hl : a.length ≤ 9223372036854775806) : Ev (fun k => undercroftkit_SameTexts.f k (a.map mk) (b.map mk)) (decide (a = b)) := by
  by_cases h : a.length = b.length
  · refine Ev.congr (f := fun k => undercroftkit_SameTexts.l0 k (a.map mk) (b.map mk) 0) (fun k => ?_) (same_l0 a b h hl a.length 0 (by omega) (by simp))
    unfold undercroftkit_SameTexts.f
    rw [if_pos (by rw [List.length_map, List.length_map]; omega)]
  · refine Ev.congr (f := fun _ => some (decide (a = b))) (fun k => ?_) (Ev.now _)
    unfold undercroftkit_SameTexts.f
    rw [if_neg (by rw [List.length_map, List.length_map]; omega), decide_eq_false (by rintro rfl; exact h rfl)]

/-- Whether the last name is a dot or two. -/
def special (l : List (List UInt8)) : Bool := match l.getLast? with | none => true | some x => decide (x = [46]) || decide (x = [46, 46])
theorem special_f (l : List (List UInt8)) (hl : l.length ≤ 9223372036854775806) : route_Special.f (l.map mk) = some (special l) := by
  unfold route_Special.f special
  cases h : l.getLast? with
  | none =>
    rw [List.getLast?_eq_none_iff] at h
    subst h
    rfl
  | some x =>
    have hne : l ≠ [] := by rintro rfl; simp at h
    have hpos : 0 < l.length := List.length_pos_iff.2 hne
    rw [if_neg (by rw [List.length_map]; omega)]
    have hw : wrap64 (((l.map mk).length : Int) - 1) = ((l.length - 1 : Nat) : Int) := by
      rw [List.length_map, wrap_small (by omega) (by omega)]
      omega
    have hx : l[l.length - 1] = x := by
      rw [List.getLast?_eq_getElem?, List.getElem?_eq_getElem (by omega)] at h
      exact Option.some.inj h
    rw [hw, if_pos (by omega), if_pos (by rw [List.length_map]; omega), rd_map l _ (by omega), toList_mk, hx]
    by_cases h1 : x = [46]
    · rw [if_pos h1]
      show some true = some (decide (x = [46]) || decide (x = [46, 46]))
      rw [decide_eq_true h1]
      rfl
    · rw [if_neg h1]
      show some (x == [46, 46]) = some (decide (x = [46]) || decide (x = [46, 46]))
      rw [decide_eq_false h1, Bool.false_or]
      congr 1
      rw [Bool.eq_iff_iff]
      simp
theorem special_app (a b : List (List UInt8)) (h : b ≠ []) : special (a ++ b) = special b := by
  unfold special
  rw [List.getLast?_append]
  cases hb : b.getLast? with
  | none => exact absurd (List.getLast?_eq_none_iff.1 hb) h
  | some x => rfl
theorem joinTail_flat (r : List (List UInt8)) : Lib.joinTail [47] r = flat r := rfl
theorem join_f (l : List (List UInt8)) (h1 : (path l).length ≤ 140737488355328) (h2 : l.length ≤ 140737488355328) : route_Join.f (l.map mk) = some (mk (path l)) := by
  unfold route_Join.f
  by_cases e : l = []
  · subst e
    rfl
  · have hm : (l.map mk).map (fun x => x.data.toList) = l := by
      rw [List.map_map]
      conv => rhs; rw [← List.map_id l]
      rfl
    rw [if_neg (by rw [List.length_map]; exact fun h => e (List.length_eq_zero_iff.1 h))]
    cases l with
    | nil => exact absurd rfl e
    | cons x r =>
      have hj : joined ((x :: r).map mk) = mk (x ++ flat r) := by
        unfold joined
        rw [hm, Lib.join_cons, joinTail_flat]
        rfl
      have hp : path (x :: r) = 47 :: (x ++ flat r) := by
        unfold path
        rw [if_neg e, flat_cons]
        rfl
      rw [hp] at h1
      rw [hj, if_pos ⟨by rw [mk_size]; simp only [List.length_cons] at h1; omega, by rw [List.length_map]; exact h2⟩, hp]
      exact congrArg some (mk_app [47] (x ++ flat r))
end Go.Proofs.Ytochgkepaleblaa.Plain
