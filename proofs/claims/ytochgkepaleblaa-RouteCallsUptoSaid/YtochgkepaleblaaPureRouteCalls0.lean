/- What the reference's Parse, Join, Special and the kit's LentTexts, KeptTexts compute. -/
import Derived.Test.YtochgkepaleblaaPureRouteBack
set_option linter.unusedVariables false
namespace Go.Proofs.Ytochgkepaleblaa.PureCalls
open Go.RowKit Go.Proofs.Ytochgkepaleblaa.Base Go.Proofs.Ytochgkepaleblaa.Hand Go.Proofs.YtochgkepaleblaaW.PrintWords Go.Proofs.Ytochgkepaleblaa.Plain

set_option maxRecDepth 10000 in
theorem l0_ev (s : ByteArray) (hs : s.size ≤ 1024) (d : Nat) : ∀ (i a : Nat) (acc : List (List UInt8)) (long : Bool), a ≤ i → i + d = s.size → acc.length ≤ i →
    Ev (fun k => undercroftref20_Parse.l0 k s (acc.map mk) (a : Int) long (i : Int)) (Plain.up (Plain.cut (s.data.toList.drop i) (pend s.data.toList a i) acc long)) := by
  have hsl := size_list s
  induction d with
  | zero =>
    intro i a acc long ha hi hacc
    have hi' : i = s.size := by omega
    have hdrop : s.data.toList.drop i = [] := by rw [List.drop_eq_nil_iff]; omega
    have hpl := pend_len s.data.toList a i ha (by omega)
    have hend : ∀ (acc' : List (List UInt8)) (lg : Bool) (b : Int), Ev (fun k => undercroftref20_Parse.l0 k s (acc'.map mk) b lg ((i : Int) + 1)) (Plain.up (fin acc' lg)) := by
      intro acc' lg b
      refine Ev.step (f := fun _ => some (Plain.up (fin acc' lg))) (fun k => ?_) (Ev.now _)
      simp only [undercroftref20_Parse.l0]
      rw [if_neg (by omega)]
      unfold fin
      cases lg <;> simp [Plain.up]
    refine Ev.step (f := fun k => undercroftref20_Parse.j2 k s (acc.map mk) (a : Int) long (i : Int) false) (fun k => ?_) ?_
    · simp only [undercroftref20_Parse.l0]
      rw [if_pos (by omega), if_neg (by omega)]
    refine Ev.step (f := fun k => undercroftref20_Parse.j3 k s (acc.map mk) (a : Int) long (i : Int) true) (fun k => ?_) ?_
    · simp only [undercroftref20_Parse.j2]
      rw [if_neg (by simp), if_pos (by omega)]
    rw [hdrop]
    by_cases hai : a < i
    · have hne : pend s.data.toList a i ≠ [] := by
        intro h
        rw [h] at hpl
        simp at hpl
        omega
      refine Ev.step (f := fun k => undercroftref20_Parse.l0 k s ((acc ++ [pend s.data.toList a i]).map mk) ((i : Int) + 1) (long || decide (14 < (pend s.data.toList a i).length)) ((i : Int) + 1)) (fun k => ?_) ?_
      · simp only [undercroftref20_Parse.j3]
        rw [if_pos trivial, if_pos (by omega), if_pos (by omega), if_pos (by omega), if_pos (by omega), if_pos (by rw [List.length_map]; omega)]
        simp only [Option.bind_some, Int.toNat_natCast]
        rw [extract_mk s a i ha (by omega), Plain.wrap_small (i := (i : Int) + 1) (by omega) (by omega), Plain.wrap_small (i := (i : Int) - a) (by omega) (by omega), hpl]
        cases long
        · simp only [Bool.false_or, Bool.false_eq_true, if_false, List.map_append, List.map_cons, List.map_nil]
          have hdd : decide ((i : Int) - a > 14) = decide (14 < i - a) := by
            by_cases h : 14 < i - a
            · rw [decide_eq_true h, decide_eq_true (by omega)]
            · rw [decide_eq_false h, decide_eq_false (by omega)]
          rw [hdd]
          rfl
        · simp [List.map_append]
          rfl
      · simp only [Plain.cut]
        rw [if_neg hne]
        exact hend _ _ _
    · have e : a = i := by omega
      subst e
      refine Ev.step (f := fun k => undercroftref20_Parse.l0 k s (acc.map mk) ((a : Int) + 1) long ((a : Int) + 1)) (fun k => ?_) ?_
      · simp only [undercroftref20_Parse.j3]
        rw [if_pos trivial, if_neg (by omega), Plain.wrap_small (i := (a : Int) + 1) (by omega) (by omega)]
      · simp only [Plain.cut]
        rw [if_pos (pend_same _ _)]
        exact hend _ _ _
  | succ d ih =>
    intro i a acc long ha hi hacc
    have hlt : i < s.data.toList.length := by omega
    have hdrop : s.data.toList.drop i = s.data.toList[i] :: s.data.toList.drop (i + 1) := List.drop_eq_getElem_cons hlt
    have hb := bt_get s i hlt
    have hpl := pend_len s.data.toList a i ha (by omega)
    refine Ev.step (f := fun k => undercroftref20_Parse.j2 k s (acc.map mk) (a : Int) long (i : Int) ((bt s (i : Int)) == 0)) (fun k => ?_) ?_
    · simp only [undercroftref20_Parse.l0]
      rw [if_pos (by omega), if_pos (by omega), if_pos (by omega)]
    rw [hdrop]
    simp only [Plain.cut]
    by_cases c0 : s.data.toList[i] = 0
    · rw [if_pos c0]
      refine Ev.step (f := fun _ => some (Plain.up ([], 4))) (fun k => ?_) (Ev.now _)
      simp only [undercroftref20_Parse.j2]
      rw [if_pos (by rw [beq_iff_eq, hb, byte0]; exact c0)]
      rfl
    rw [if_neg c0]
    refine Ev.step (f := fun k => undercroftref20_Parse.j3 k s (acc.map mk) (a : Int) long (i : Int) ((bt s (i : Int)) == 47)) (fun k => ?_) ?_
    · simp only [undercroftref20_Parse.j2]
      rw [if_neg (by rw [beq_iff_eq, hb, byte0]; exact c0), if_neg (by omega), if_pos (by omega), if_pos (by omega)]
    by_cases c47 : s.data.toList[i] = 47
    · rw [if_pos c47]
      have hbf : (bt s (i : Int) == 47) = true := by rw [beq_iff_eq, hb, byte47]; exact c47
      rw [hbf]
      have ihn := fun acc' lg h => ih (i + 1) (i + 1) acc' lg (Nat.le_refl _) (by omega) h
      simp only [pend_same] at ihn
      by_cases hai : a < i
      · have hne : pend s.data.toList a i ≠ [] := by
          intro h
          rw [h] at hpl
          simp at hpl
          omega
        rw [if_neg hne]
        refine Ev.step (f := fun k => undercroftref20_Parse.l0 k s ((acc ++ [pend s.data.toList a i]).map mk) ((i + 1 : Nat) : Int) (long || decide (14 < (pend s.data.toList a i).length)) ((i + 1 : Nat) : Int)) (fun k => ?_) (ihn _ _ (by simp; omega))
        simp only [undercroftref20_Parse.j3]
        rw [if_pos trivial, if_pos (by omega), if_pos (by omega), if_pos (by omega), if_pos (by omega), if_pos (by rw [List.length_map]; omega)]
        simp only [Option.bind_some, Int.toNat_natCast]
        rw [extract_mk s a i ha (by omega), Plain.wrap_small (i := (i : Int) + 1) (by omega) (by omega), Plain.wrap_small (i := (i : Int) - a) (by omega) (by omega), hpl]
        cases long
        · simp only [Bool.false_or, Bool.false_eq_true, if_false, List.map_append, List.map_cons, List.map_nil]
          have hdd : decide ((i : Int) - a > 14) = decide (14 < i - a) := by
            by_cases h : 14 < i - a
            · rw [decide_eq_true h, decide_eq_true (by omega)]
            · rw [decide_eq_false h, decide_eq_false (by omega)]
          rw [hdd]
          rfl
        · simp [List.map_append]
          rfl
      · have e : a = i := by omega
        subst e
        rw [if_pos (pend_same _ _)]
        refine Ev.step (f := fun k => undercroftref20_Parse.l0 k s (acc.map mk) ((a + 1 : Nat) : Int) long ((a + 1 : Nat) : Int)) (fun k => ?_) (ihn _ _ (by omega))
        simp only [undercroftref20_Parse.j3]
        rw [if_pos trivial, if_neg (by omega), Plain.wrap_small (i := (a : Int) + 1) (by omega) (by omega)]
        rfl
    · rw [if_neg c47]
      have hbf : (bt s (i : Int) == 47) = false := by rw [beq_eq_false_iff_ne, Ne, hb, byte47]; exact c47
      rw [hbf]
      rw [← pend_succ s.data.toList a i ha hlt]
      refine Ev.step (f := fun k => undercroftref20_Parse.l0 k s (acc.map mk) (a : Int) long ((i + 1 : Nat) : Int)) (fun k => ?_) (ih (i + 1) a acc long (by omega) (by omega) (by omega))
      simp only [undercroftref20_Parse.j3]
      rw [if_neg (by simp), Plain.wrap_small (i := (i : Int) + 1) (by omega) (by omega)]
      rfl

theorem parse_ev (s : ByteArray) (hs : s.size ≤ 140737488351232) : Ev (fun k => undercroftref20_Parse.f k s) (Plain.up (parse s.data.toList)) := by
  have hsl := size_list s
  unfold parse
  have hj : Ev (fun k => undercroftref20_Parse.j0 k s true) (Plain.up (([] : List (List UInt8)), 4)) := by
    refine Ev.step (f := fun _ => some (Plain.up (([] : List (List UInt8)), 4))) (fun k => ?_) (Ev.now _)
    simp only [undercroftref20_Parse.j0]
    rfl
  by_cases h0 : s.data.toList = []
  · rw [if_pos h0]
    refine Ev.congr (f := fun k => undercroftref20_Parse.j0 k s true) (fun k => ?_) hj
    unfold undercroftref20_Parse.f
    rw [if_pos (by rw [ByteArray.toList_eq]; exact h0)]
  rw [if_neg h0]
  have hpos : 0 < s.data.toList.length := List.length_pos_iff.2 h0
  have hh : s.data.toList.head? = some (s.data.toList[0]) := by rw [List.head?_eq_getElem?, List.getElem?_eq_getElem hpos]
  have hb := bt_get s 0 hpos
  rw [hh]
  have hun : ∀ k, undercroftref20_Parse.f k s = if (bt s 0) = 47 then (undercroftref20_Parse.j0 k s (decide ((s.size : Int) > 1024))) else (undercroftref20_Parse.j0 k s true) := by
    intro k
    unfold undercroftref20_Parse.f
    rw [if_neg (by rw [ByteArray.toList_eq]; exact h0), if_pos (by omega)]
  by_cases h1 : s.data.toList[0] = 47
  · rw [if_pos (by rw [h1])]
    have hb47 : bt s 0 = 47 := by
      have : bt s 0 = ((s.data.toList[0]).toNat : Int) := hb
      rw [this, byte47]
      exact h1
    by_cases h2 : 1024 < s.data.toList.length
    · rw [if_pos h2]
      refine Ev.congr (f := fun k => undercroftref20_Parse.j0 k s true) (fun k => ?_) hj
      rw [hun, if_pos hb47, decide_eq_true (by omega)]
    · rw [if_neg h2]
      refine Ev.congr (f := fun k => undercroftref20_Parse.j0 k s false) (fun k => ?_) ?_
      · rw [hun, if_pos hb47, decide_eq_false (by omega)]
      refine Ev.step (f := fun k => undercroftref20_Parse.l0 k s ([] : List ByteArray) 0 false 0) (fun k => ?_) ?_
      · simp only [undercroftref20_Parse.j0]
        rw [if_neg (by simp)]
      have := l0_ev s (by omega) s.size 0 0 [] false (by omega) (by omega) (by simp)
      simpa [pend_same] using this
  · rw [if_neg (by simpa using h1)]
    refine Ev.congr (f := fun k => undercroftref20_Parse.j0 k s true) (fun k => ?_) hj
    rw [hun, if_neg]
    have : bt s 0 = ((s.data.toList[0]).toNat : Int) := hb
    rw [this, byte47]
    exact h1
theorem parse_at (l : List UInt8) (hl : l.length ≤ 140737488351232) : Ev (fun k => undercroftref20_Parse.f k (mk l)) (Plain.up (parse l)) := parse_ev (mk l) hl

/-! ### Marks, and what is lent -/
def mark7 (i : Nat) : List UInt8 := ((undercroftkit_markTexts.f 7 (i : Int)).getD ByteArray.empty).data.toList
theorem mark7_f (i : Nat) : undercroftkit_markTexts.f 7 (i : Int) = some (mk (mark7 i)) := by
  unfold mark7
  have h : ∃ r, undercroftkit_markTexts.f 7 (i : Int) = some r := by
    unfold undercroftkit_markTexts.f
    simp only [Option.bind_some]
    exact ⟨_, if_pos (show 4 + 2 ≤ 9223372036854775807 by decide)⟩
  obtain ⟨r, hr⟩ := h
  rw [hr]
  simp only [Option.getD_some]
  rw [mk_data]
def lent (n : List (List UInt8)) : List (List UInt8) := n ++ (List.range' 0 6).map mark7
theorem lent_l0 (d : Nat) : ∀ (i : Nat) (acc : List (List UInt8)), i + d = 6 → acc.length ≤ 300 + i →
    Ev (fun k => undercroftkit_LentTexts.l0 k (acc.map mk) (i : Int)) ((acc ++ (List.range' i d).map mark7).map mk) := by
  induction d with
  | zero =>
    intro i acc hi _
    refine Ev.step (f := fun _ => some ((acc ++ (List.range' i 0).map mark7).map mk)) (fun k => ?_) (Ev.now _)
    simp only [undercroftkit_LentTexts.l0]
    rw [if_neg (by omega)]
    simp
  | succ d ih =>
    intro i acc hi hl
    have h := ih (i + 1) (acc ++ [mark7 i]) (by omega) (by simp; omega)
    rw [List.append_assoc] at h
    refine Ev.step (f := fun k => undercroftkit_LentTexts.l0 k ((acc ++ [mark7 i]).map mk) ((i + 1 : Nat) : Int)) (fun k => ?_) h
    simp only [undercroftkit_LentTexts.l0]
    rw [if_pos (by omega), mark7_f]
    simp only [Option.bind_some]
    rw [if_pos (by rw [List.length_map]; omega), Plain.wrap_small (i := (i : Int) + 1) (by omega) (by omega), List.map_append]
    rfl
theorem copy_f (n : List (List UInt8)) (h : n.length ≤ 1000000) : undercroftkit_CopyTexts.f (n.map mk) = some (n.map mk) := by
  unfold undercroftkit_CopyTexts.f
  rw [if_pos (by rw [List.length_map, List.length_nil]; omega), List.nil_append]
theorem lent_ev (n : List (List UInt8)) (h : n.length ≤ 300) : Ev (fun k => undercroftkit_LentTexts.f k (n.map mk)) ((lent n).map mk) := by
  unfold undercroftkit_LentTexts.f
  simp only [copy_f n (by omega), Option.bind_some]
  exact lent_l0 6 0 n (by omega) (by omega)
theorem lent_length (n : List (List UInt8)) : (lent n).length = n.length + 6 := by simp [lent]
theorem kept_ev (n : List (List UInt8)) (h : n.length ≤ 300) : Ev (fun k => undercroftkit_KeptTexts.f k ((lent n).map mk) (n.map mk)) true := by
  unfold undercroftkit_KeptTexts.f
  refine Ev.bind (lent_ev n h) ?_
  refine Ev.bind (same_ev (lent n) (lent n) (by rw [lent_length]; omega)) ?_
  rw [decide_eq_true rfl]
  exact Ev.now _

/-! ### The reference's Join and Special -/
theorem flat_app (a b : List (List UInt8)) : flat (a ++ b) = flat a ++ flat b := by simp [flat]
theorem refjoin_l0 (n : List (List UInt8)) (hl : n.length ≤ 1000000) (hB : (flat n).length ≤ 1000000000) (d : Nat) : ∀ i, i + d = n.length →
    Ev (fun k => undercroftref20_Join.l0 k (n.map mk) (mk (flat (n.take i))) (i : Int)) (mk (path n)) := by
  induction d with
  | zero =>
    intro i hi
    have e : n.take i = n := List.take_of_length_le (by omega)
    refine Ev.step (f := fun _ => some (mk (path n))) (fun k => ?_) (Ev.now _)
    simp only [undercroftref20_Join.l0]
    rw [if_neg (by rw [List.length_map]; omega), e, toList_mk]
    unfold path
    by_cases h : n = []
    · subst h
      rfl
    · rw [if_neg h, if_neg]
      cases n with
      | nil => exact absurd rfl h
      | cons x n => rw [flat_cons]; simp
  | succ d ih =>
    intro i hi
    have hlt : i < n.length := by omega
    have e : flat (n.take (i + 1)) = flat (n.take i) ++ ([47] ++ n[i]) := by
      rw [List.take_succ_eq_append_getElem hlt, flat_app]
      simp [flat]
    have hle : (flat (n.take (i + 1))).length ≤ (flat n).length := by
      conv => rhs; rw [← List.take_append_drop (i + 1) n, flat_app, List.length_append]
      omega
    rw [e] at hle
    simp only [List.length_append, List.length_cons, List.length_nil] at hle
    have h := ih (i + 1) (by omega)
    rw [e] at h
    refine Ev.step (f := fun k => undercroftref20_Join.l0 k (n.map mk) (mk (flat (n.take i) ++ ([47] ++ n[i]))) ((i + 1 : Nat) : Int)) (fun k => ?_) h
    simp only [undercroftref20_Join.l0]
    rw [rd_map n i hlt, show (⟨#[47]⟩ : ByteArray) = mk [47] from rfl, mk_app, mk_app, mk_size, mk_size, mk_size,
      if_pos (by rw [List.length_map]; omega), if_pos (by omega), if_pos (by omega), if_pos (by simp only [List.length_append, List.length_cons, List.length_nil]; omega),
      Plain.wrap_small (i := (i : Int) + 1) (by omega) (by omega), List.append_assoc]
    rfl
theorem refjoin_ev (n : List (List UInt8)) (hl : n.length ≤ 1000000) (hB : (flat n).length ≤ 1000000000) : Ev (fun k => undercroftref20_Join.f k (n.map mk)) (mk (path n)) :=
  refjoin_l0 n hl hB n.length 0 (by omega)
theorem refspecial_f (n : List (List UInt8)) (hl : n.length ≤ 9223372036854775806) : undercroftref20_Special.f (n.map mk) = some (special n) := special_f n hl
end Go.Proofs.Ytochgkepaleblaa.PureCalls
