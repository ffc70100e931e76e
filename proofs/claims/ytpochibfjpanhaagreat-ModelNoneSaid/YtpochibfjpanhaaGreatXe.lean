/- A part of the machine that reckons a closed run, and of the proof that what it says the given program does. No conditions. -/
import Derived.Test.YtpochibfjpanhaaGreatXd
import Derived.Deep.MidRow
set_option linter.unusedVariables false
set_option linter.unusedSimpArgs false
namespace Go.Proofs.YtpochibfjpanhaaGreat.Exe
open Go

theorem setCellK_cons (c : AV) (cs : List AV) (n : Nat) (v : AV) : setCellK (c :: cs) n v = ifB (Nat.ble (widthK c) n) (onSome (setCellK cs (n - widthK c) v) fun r => some (c :: r)) (setIn c cs n v) := rfl
theorem setSegsK_cons (c : AV) (cs : List AV) (off n : Nat) (new : List AV) : setSegsK (c :: cs) off n new =
    ifB (Nat.ble (widthK c) off) (onSome (setSegsK cs (off - widthK c) n new) fun r => some (c :: r))
        (orElse (ifB (Nat.ble (off + n) (widthK c)) (onBytes c fun l m => theRun new fun k v => ifB (Nat.beq k n) (some (.bytes l (putRun m off n v) :: cs)) none) none)
          (ifB (Nat.beq off 0) (onSome (dropK (c :: cs) n) fun r => some (new ++ r)) none)) := rfl

theorem kindNo_u8 {k : IntKind} (h : Nat.beq (kindNo k) 4 = true) : k = .u8 := by
  cases k <;> first | rfl | exact Bool.noConfusion (show false = true from h)
theorem kindNo_inj {j k : IntKind} (h : sameKind j k = true) : j = k := by
  cases j <;> cases k <;> first | rfl | exact Bool.noConfusion (show false = true from h)

theorem u8of_some {v : AV} {k : Nat → Option (List AV)} {r : List AV} (h : u8of v k = some r) : ∃ b : Nat, v = .int .u8 b ∧ b ≤ 255 ∧ k b = some r := by
  obtain ⟨kd, n, rfl, h⟩ := onInt_some h
  obtain ⟨h1, h⟩ := ifB_some h
  obtain ⟨b, rfl, h⟩ := onNatI_some h
  obtain ⟨h2, h'⟩ := ifB_some h
  have := kindNo_u8 h1
  subst this
  exact ⟨b, rfl, ble_true h2, h'⟩

theorem orElse_some {A : Type} {a b : Option A} {r : A} (h : orElse a b = some r) : a = some r ∨ (a = none ∧ b = some r) := by
  cases a with
  | none => exact .inr ⟨rfl, h⟩
  | some x => exact .inl h

theorem theRun_some {cs : List AV} {k : Nat → Nat → Option (List AV)} {r : List AV} (h : theRun cs k = some r) : ∃ l v, cs = [.bytes l v] ∧ k l v = some r := by
  cases cs with
  | nil => cases h
  | cons c t =>
    cases t with
    | cons d u => cases h
    | nil =>
      obtain ⟨l, v, rfl, h⟩ := onBytes_some (show onBytes c k = some r from h)
      exact ⟨l, v, rfl, h⟩

theorem take_set_drop (us : List Value) (n : Nat) (u : Value) (h : n < us.length) : us.set n u = us.take n ++ [u] ++ us.drop (n + 1) := by
  rw [List.set_eq_take_append_cons_drop, if_pos h]
  simp

theorem setCellK_some {ρ : Rho} : ∀ {cs : List AV} {us : List Value} {n : Nat} {v : AV} {u : Value} {r : List AV}, Cells ρ cs us → Den ρ v u → setCellK cs n v = some r →
    n < us.length ∧ Cells ρ r (us.set n u) ∧ isOne v = true
  | [], _, _, _, _, _, _, _, h => by cases h
  | c :: cs, us, n, v, u, r, hc, hv, h => by
    obtain ⟨xs, ys, rfl, hl, hr, hx⟩ := hc.head
    rw [setCellK_cons] at h
    rcases ifB_or h with ⟨hb, h⟩ | ⟨hb, h⟩
    · have hb := ble_true hb
      obtain ⟨r', hr', h⟩ := onSome_some h
      cases h
      obtain ⟨h1, h2, h3⟩ := setCellK_some hr hv hr'
      refine ⟨by rw [List.length_append]; omega, ?_, h3⟩
      rw [List.set_append, if_neg (by omega), hl]
      rcases hx with ⟨o, w, rfl, d⟩ | ⟨l, m, rfl, rfl⟩
      · exact .one o d h2
      · exact .bytes h2
    · have hb := ble_false hb
      rcases ifB_or (show ifB (isOne c) (ifB (isOne v) (some (v :: cs)) none) (onBytes c fun l m => u8of v fun b => some (.bytes l (putRun m n 1 b) :: cs)) = some r from h) with ⟨ho, h⟩ | ⟨ho, h⟩
      · obtain ⟨h3, h⟩ := ifB_some h
        cases h
        rcases hx with ⟨o, w, rfl, d⟩ | ⟨l, m, rfl, rfl⟩
        · have h0 : n = 0 := by simp at hl; omega
          subst h0
          exact ⟨by simp, .one h3 hv hr, h3⟩
        · exact Bool.noConfusion (show false = true from ho)
      · obtain ⟨l, m, rfl, h⟩ := onBytes_some h
        obtain ⟨b, rfl, hb8, h⟩ := u8of_some h
        cases h
        rcases hx with ⟨o, _⟩ | ⟨l', m', e, rfl⟩
        · exact Bool.noConfusion (show false = true from o)
        · cases e
          cases hv
          have hb' : n < l := hb
          have hlen : n < (byteVals l m).length := by rw [byteVals_length]; exact hb'
          refine ⟨by rw [List.length_append]; omega, ?_, rfl⟩
          rw [List.set_append, if_pos hlen, take_set_drop _ _ _ hlen]
          have e1 : byteVals 1 b = [Value.int .u8 (b : Int)] := by show [Value.int .u8 ((b % 256 : Nat) : Int)] = _; rw [Nat.mod_eq_of_lt (by omega)]
          rw [← e1, ← byteVals_putRun l m n 1 b (by omega)]
          exact .bytes hr

theorem Cells.append {ρ : Rho} : ∀ {a : List AV} {x : List Value} {b : List AV} {y : List Value}, Cells ρ a x → Cells ρ b y → Cells ρ (a ++ b) (x ++ y)
  | [], _, _, _, ha, hb => by cases ha; exact hb
  | c :: a, _, b, y, ha, hb => by
    cases ha with
    | bytes h => rw [List.append_assoc]; exact .bytes (h.append hb)
    | one o d h => exact .one o d (h.append hb)

theorem widths_eq {ρ : Rho} : ∀ {cs : List AV} {us : List Value}, Cells ρ cs us → widths cs = us.length
  | [], _, h => by cases h; rfl
  | c :: cs, us, h => by
    obtain ⟨xs, ys, rfl, hl, hr, _⟩ := h.head
    show widthK c + widths cs = _
    rw [widths_eq hr, List.length_append, hl]

theorem setSegsK_some {ρ : Rho} : ∀ {cs : List AV} {us : List Value} {off n : Nat} {new : List AV} {vs : List Value} {r : List AV}, Cells ρ cs us → Cells ρ new vs → vs.length = n →
    setSegsK cs off n new = some r → off + n ≤ us.length ∧ Cells ρ r (us.take off ++ vs ++ us.drop (off + n))
  | [], us, off, n, new, vs, r, hc, hv, hn, h => by
    obtain ⟨h0, h⟩ := ifB_some (show ifB (Nat.beq (Nat.add off n) 0) (some []) none = some r from h)
    have h0 : off + n = 0 := Nat.eq_of_beq_eq_true h0
    cases h
    cases hc
    obtain rfl : vs = [] := List.eq_nil_of_length_eq_zero (by omega)
    refine ⟨by simp; omega, ?_⟩
    simp only [List.take_nil, List.drop_nil, List.append_nil]
    exact .nil
  | c :: cs, us, off, n, new, vs, r, hc, hv, hn, h => by
    have hc0 := hc
    obtain ⟨xs, ys, rfl, hl, hr, hx⟩ := hc.head
    rw [setSegsK_cons] at h
    rcases ifB_or h with ⟨hb, h⟩ | ⟨hb, h⟩
    · have hb := ble_true hb
      obtain ⟨r', hr', h⟩ := onSome_some h
      cases h
      obtain ⟨h1, h2⟩ := setSegsK_some hr hv hn hr'
      refine ⟨by rw [List.length_append]; omega, ?_⟩
      have e1 : (xs ++ ys).take off = xs ++ ys.take (off - widthK c) := by rw [List.take_append, List.take_of_length_le (by omega), hl]
      have e2 : (xs ++ ys).drop (off + n) = ys.drop (off - widthK c + n) := by rw [List.drop_append, List.drop_of_length_le (by omega), List.nil_append, hl]; congr 1; omega
      rw [e1, e2, List.append_assoc, List.append_assoc, ← List.append_assoc (ys.take _)]
      rcases hx with ⟨o, w, rfl, d⟩ | ⟨l, m, rfl, rfl⟩
      · exact .one o d h2
      · exact .bytes h2
    · have hb := ble_false hb
      rcases orElse_some h with h | ⟨_, h⟩
      · obtain ⟨h1, h⟩ := ifB_some h
        have h1 := ble_true h1
        obtain ⟨l, m, rfl, h⟩ := onBytes_some h
        obtain ⟨k, v, rfl, h⟩ := theRun_some h
        obtain ⟨h2, h⟩ := ifB_some h
        cases h
        have h2 := beq_true h2
        subst h2
        rcases hx with ⟨o, _⟩ | ⟨l', m', e, rfl⟩
        · exact Bool.noConfusion (show false = true from o)
        · cases e
          have h1' : off + k ≤ l := h1
          have ev : vs = byteVals k v := by
            cases hv with
            | bytes h => cases h; rw [List.append_nil]
            | one o _ _ => exact Bool.noConfusion (show false = true from o)
          subst ev
          refine ⟨by rw [List.length_append, byteVals_length]; omega, ?_⟩
          have e1 : (byteVals l m ++ ys).take off = (byteVals l m).take off := by rw [List.take_append_of_le_length (by rw [byteVals_length]; omega)]
          have e2 : (byteVals l m ++ ys).drop (off + k) = (byteVals l m).drop (off + k) ++ ys := by rw [List.drop_append_of_le_length (by rw [byteVals_length]; omega)]
          rw [e1, e2, ← List.append_assoc, ← byteVals_putRun l m off k v h1']
          exact .bytes hr
      · obtain ⟨h1, h⟩ := ifB_some h
        have h1 := beq_true h1
        subst h1
        obtain ⟨r', hr', h⟩ := onSome_some h
        cases h
        obtain ⟨h2, h3⟩ := dropK_some hc0 hr'
        refine ⟨by omega, ?_⟩
        rw [List.take_zero, List.nil_append, Nat.zero_add]
        exact hv.append h3

/-! ### Values with their cells -/
theorem one_cells {ρ : Rho} {v : AV} {u : Value} (o : isOne v = true) (d : Den ρ v u) : u.cells = #[u] ∧ u.oneCell' = true := by
  cases d <;> first | exact ⟨rfl, rfl⟩ | exact ⟨by assumption, by assumption⟩ | exact Bool.noConfusion (show false = true from o)

theorem row_cells {ρ : Rho} {cs : List AV} {u : Value} (d : Den ρ (.agg cs) u) : ∃ us, u = .agg us.toArray ∧ Cells ρ cs us ∧ u.cells.toList = us := by
  cases d with
  | agg h => exact ⟨_, rfl, h, rfl⟩

mutual
theorem Cells.oneCell {ρ : Rho} : ∀ {cs : List AV} {us : List Value}, Cells ρ cs us → ∀ u ∈ us, u.oneCell' = true
  | [], _, h, u, hu => by cases h; cases hu
  | c :: cs, us, h, u, hu => by
    obtain ⟨xs, ys, rfl, _, hr, hx⟩ := h.head
    rcases List.mem_append.1 hu with hu | hu
    · rcases hx with ⟨o, w, rfl, d⟩ | ⟨l, m, rfl, rfl⟩
      · have : u = w := by simpa using hu
        subst this
        exact (one_cells o d).2
      · exact byteVals_oneCell l m u hu
    · exact Cells.oneCell hr u hu
theorem byteVals_oneCell : ∀ (l m : Nat) (u : Value), u ∈ byteVals l m → u.oneCell' = true
  | 0, _, _, h => by cases h
  | l + 1, m, u, h => by
    rcases List.mem_cons.1 h with rfl | h
    · rfl
    · exact byteVals_oneCell l (m / 256) u h
end

theorem putValK_some {ρ : Rho} {cs : List AV} {us : List Value} {off n : Nat} {v : AV} {u : Value} {r : List AV} (hc : Cells ρ cs us) (hv : Den ρ v u) (h : putValK cs off n v = some r) :
    u.cells.size = n ∧ off + n ≤ us.length ∧ (∀ c ∈ u.cells.toList, c.oneCell' = true) ∧ Cells ρ r (us.take off ++ u.cells.toList ++ us.drop (off + n)) := by
  rcases ifB_or (show ifB (isOne v) (ifB (Nat.beq n 1) (setCellK cs off v) none) (onAgg v fun new => ifB (Nat.beq (widths new) n) (setSegsK cs off n new) none) = some r from h) with ⟨ho, h⟩ | ⟨_, h⟩
  · obtain ⟨h1, h⟩ := ifB_some h
    have h1 := beq_true h1
    subst h1
    obtain ⟨h2, h3, _⟩ := setCellK_some hc hv h
    obtain ⟨e, o⟩ := one_cells ho hv
    rw [e]
    refine ⟨rfl, by omega, fun c hc => by have : c = u := by simpa using hc
                                          rw [this]; exact o, ?_⟩
    rw [take_set_drop us off u h2] at h3
    exact h3
  · obtain ⟨new, rfl, h⟩ := onAgg_some h
    obtain ⟨h1, h⟩ := ifB_some h
    have h1 := beq_true h1
    obtain ⟨vs, rfl, hn, _⟩ := row_cells hv
    rw [widths_eq hn] at h1
    obtain ⟨h2, h3⟩ := setSegsK_some hc hn h1 h
    exact ⟨by show vs.toArray.size = n; simpa using h1, h2, fun c hc => hn.oneCell c (by have h : c ∈ vs.toArray.toList := hc; simpa using h), by show Cells ρ r (us.take off ++ vs.toArray.toList ++ us.drop (off + n)); simpa using h3⟩

theorem valueK_some {ρ : Rho} {cs : List AV} {us : List Value} {agg : Bool} {n off : Nat} {v : AV} (hc : Cells ρ cs us) (h : valueK agg n off cs = some v) :
    (agg = true ∧ off + n ≤ us.length ∧ Den ρ v (.agg ((us.drop off).take n).toArray)) ∨ (agg = false ∧ ∃ u, us[off]? = some u ∧ Den ρ v u ∧ isOne v = true) := by
  rcases ifB_or (show ifB agg (onSome (segsK cs off n) fun s => some (.agg s)) (cellK cs off) = some v from h) with ⟨ha, h⟩ | ⟨ha, h⟩
  · obtain ⟨s, hs, h⟩ := onSome_some h
    cases h
    obtain ⟨h1, h2⟩ := segsK_some hc hs
    exact .inl ⟨ha, h1, .agg h2⟩
  · exact .inr ⟨ha, cellK_some hc h⟩
end Go.Proofs.YtpochibfjpanhaaGreat.Exe
