/- A part of the machine that reckons a closed run, and of the proof that what it says the given program does. No conditions. -/
import Derived.Test.YtpochibfjpanhaaGreatXq
set_option linter.unusedVariables false
set_option linter.unusedSimpArgs false
namespace Go.Proofs.YtpochibfjpanhaaGreat.Exe
open Go
variable {base w : World} {P : Program} {ρ : Rho} {S : AS} {t : T} {e : Operand → Value} {o : Oper} {c : K} {z : AV × Option AS}

inductive OptRel (ρ : Rho) : Option AV → Option Value → Prop where
  | none : OptRel ρ none none
  | some {a : AV} {u : Value} : Den ρ a u → OptRel ρ (some a) (some u)

theorem evO_rel {x : Option Operand} {y : Option AR} (h : ofOpt x = some y) (he : EvRel ρ t e) : OptRel ρ (evO y t) (x.map e) := by
  cases x with
  | none => cases h; exact .none
  | some a =>
    cases ha : ofOperand a with
    | none => simp [ofOpt, ha] at h
    | some b => simp [ofOpt, ha] at h; subst h; exact .some (he a b ha)

theorem boundK_some {R : Type} {y : Nat} {v : AV} {k : Nat → Option R} {r : R} (h : boundK y v k = some r) : ∃ (kd : IntKind) (m : Nat), v = .int kd m ∧ m ≤ y ∧ k m = some r := by
  obtain ⟨kd, m, rfl, h1⟩ := onNat_some h
  obtain ⟨h2, h3⟩ := ifB_some h1
  exact ⟨kd, m, rfl, ble_true h2, h3⟩
theorem run_sliceBound (kd : IntKind) (m y : Nat) (code : BoundsCode) (h : m ≤ y) : (Instr.sliceBound (.int kd m) y code).run P w = .ok m w := by
  simp [Instr.sliceBound, asIntOf, h]

theorem bounds_some {R : Type} {sl : Bool} {len cap C : Nat} {lo hi mx : Option AV} {lo' hi' mx' : Option Value} {k : Nat → Nat → Nat → Option R} {r : R} (hC : cap ≤ C) (hlo : OptRel ρ lo lo') (hhi : OptRel ρ hi hi') (hmx : OptRel ρ mx mx')
    (h : boundsK len cap lo hi mx k = some r) : ∃ l h m m', k l h m = some r ∧ (Instr.sliceBounds sl len C lo' hi' mx').run P w = .ok (l, h, m') w ∧ ((mx = none ∧ m = cap ∧ m' = C) ∨ (isNone mx = false ∧ m' = m)) ∧ (len = 0 → cap = 0 → l = 0 ∧ h = 0 ∧ m = 0) := by
  cases hmx with
  | none =>
    have h : optB hi len cap (fun h => optB lo 0 h fun l => k l h cap) = some r := h
    cases hhi with
    | none =>
      have h : optB lo 0 len (fun l => k l len cap) = some r := h
      cases hlo with
      | none => exact ⟨0, len, cap, C, h, by simp [Instr.sliceBounds], .inl ⟨rfl, rfl, rfl⟩, by intro _ _; omega⟩
      | some d =>
        obtain ⟨kd, m, rfl, h1, h2⟩ := boundK_some (show boundK len _ _ = some r from h)
        cases d
        exact ⟨m, len, cap, C, h2, by simp [Instr.sliceBounds, run_sliceBound kd m len _ h1], .inl ⟨rfl, rfl, rfl⟩, by intro _ _; omega⟩
    | some dh =>
      obtain ⟨kh, n, rfl, g1, g2⟩ := boundK_some (show boundK cap _ _ = some r from h)
      cases dh
      cases hlo with
      | none => exact ⟨0, n, cap, C, g2, by simp [Instr.sliceBounds, run_sliceBound kh n C _ (Nat.le_trans g1 hC)], .inl ⟨rfl, rfl, rfl⟩, by intro _ _; omega⟩
      | some d =>
        obtain ⟨kd, m, rfl, h1, h2⟩ := boundK_some (show boundK n _ _ = some r from g2)
        cases d
        exact ⟨m, n, cap, C, h2, by simp [Instr.sliceBounds, run_sliceBound kh n C _ (Nat.le_trans g1 hC), run_sliceBound kd m n _ h1], .inl ⟨rfl, rfl, rfl⟩, by intro _ _; omega⟩
  | some dm =>
    obtain ⟨km, q, rfl, f1, f2⟩ := boundK_some (show boundK cap _ _ = some r from h)
    cases dm
    cases hhi with
    | none => cases f2
    | some dh =>
      obtain ⟨kh, n, rfl, g1, g2⟩ := boundK_some (show boundK q _ _ = some r from f2)
      cases dh
      cases hlo with
      | none => exact ⟨0, n, q, q, g2, by simp [Instr.sliceBounds, run_sliceBound km q C _ (Nat.le_trans f1 hC), run_sliceBound kh n q _ g1], .inr ⟨rfl, rfl⟩, by intro _ _; omega⟩
      | some d =>
        obtain ⟨kd, m, rfl, h1, h2⟩ := boundK_some (show boundK n _ _ = some r from g2)
        cases d
        exact ⟨m, n, q, q, h2, by simp [Instr.sliceBounds, run_sliceBound km q C _ (Nat.le_trans f1 hC), run_sliceBound kh n q _ g1, run_sliceBound kd m n _ h1], .inr ⟨rfl, rfl⟩, by intro _ _; omega⟩

theorem cutK_some {b off es l h m : Nat} {op : Bool} (hh : cutK b off es l h m op S c = some z) : c (.sl b (if m = l then off else off + l * es) (h - l) (m - l) op) S = some z := by
  unfold cutK at hh
  rw [forceN_eq, forceN_eq, forceN_eq, ifBeq] at hh
  exact hh

theorem s_sliceArray {ty el : TypeId} {x : Operand} {lo hi mx : Option Operand} {x' : AR} {lo' hi' mx' : Option AR} {n es : Nat} (ho : o.op = .slice ty x lo hi mx) (hu : P.underlying ty = some (.array n el)) (hn : (P.info? el).map (·.size) = some es)
    (hx : ofOperand x = some x') (hlo : ofOpt lo = some lo') (hhi : ofOpt hi = some hi') (hmx : ofOpt mx = some mx') (he : EvRel ρ t e) (hw : WRel base ρ S w)
    (h : kSliceArray n es x' lo' hi' mx' t S c = some z) : OpVal P ρ S e o w c z := by
  obtain ⟨b, off, hv, h⟩ := onPtr_some h
  have hdx := he x x' hx
  rw [hv] at hdx
  generalize hex : e x = ex at hdx
  cases hdx with
  | @ptr _ _ r q hρ =>
    obtain ⟨l, hh, m, m', hk, hrun, hm, _⟩ := bounds_some (P := P) (w := w) (sl := false) (C := n) (Nat.le_refl n) (evO_rel hlo he) (evO_rel hhi he) (evO_rel hmx he) h
    have hmm : m' = m := by rcases hm with ⟨_, a, b⟩ | ⟨_, a⟩ <;> omega
    subst hmm
    have hk := cutK_some hk
    cases hq : P.info? el with
    | none => rw [hq] at hn; cases hn
    | some ti =>
      have hsz : ti.size = es := by rw [hq] at hn; simpa using hn
      have d := Den.sl (len := hh - l) (cap := m' - l) (op := false) (o := if m' = l then off else off + l * es) hρ
      refine .pure hk hw d ?_
      have e1 : (⟨r, off, none⟩ : Addr).add (l * es) = ⟨r, off + l * es, none⟩ := Addr.add_mid r off (l * es)
      by_cases hml : m' = l
      · simp [execOp, ho, hex, Instr.sliceAt, run_underlying hu, Instr.sureAddr, hrun, sizeOf, typeInfo, hq, hsz, hml]
      · simp [execOp, ho, hex, Instr.sliceAt, run_underlying hu, Instr.sureAddr, hrun, sizeOf, typeInfo, hq, hsz, hml, e1]

theorem isSnil_true {v : AV} (h : isSnil v = true) : v = .snil := by
  cases v <;> first | rfl | exact Bool.noConfusion (show false = true from h)

theorem s_sliceSlice {ty el : TypeId} {x : Operand} {lo hi mx : Option Operand} {x' : AR} {lo' hi' mx' : Option AR} {es : Nat} (ho : o.op = .slice ty x lo hi mx) (hu : P.underlying ty = some (.slice el)) (hn : (P.info? el).map (·.size) = some es)
    (hx : ofOperand x = some x') (hlo : ofOpt lo = some lo') (hhi : ofOpt hi = some hi') (hmx : ofOpt mx = some mx') (he : EvRel ρ t e) (hw : WRel base ρ S w)
    (h : kSliceSlice es x' lo' hi' mx' t S c = some z) : OpVal P ρ S e o w c z := by
  have hdx := he x x' hx
  cases hq : P.info? el with
  | none => rw [hq] at hn; cases hn
  | some ti =>
  have hsz : ti.size = es := by rw [hq] at hn; simpa using hn
  rcases ifB_or h with ⟨hs, h1⟩ | ⟨_, h1⟩
  · have hs := isSnil_true hs
    rw [hs] at hdx
    generalize hex : e x = ex at hdx
    cases hdx
    obtain ⟨l, hh, m, m', hk, hrun, hm, h0⟩ := bounds_some (P := P) (w := w) (sl := true) (C := 0) (Nat.le_refl 0) (evO_rel hlo he) (evO_rel hhi he) (evO_rel hmx he) h1
    obtain ⟨rfl, rfl, rfl⟩ := h0 rfl rfl
    have hm0 : m' = 0 := by rcases hm with ⟨_, _, a⟩ | ⟨_, a⟩ <;> exact a
    subst hm0
    exact .pure hk hw .snil (by simp [execOp, ho, hex, Instr.sliceAt, Instr.slice, run_underlying hu, hrun, sizeOf, typeInfo, hq])
  · obtain ⟨b, off, len, cap, op, hv, h2⟩ := onSl_some h1
    rw [hv] at hdx
    generalize hex : e x = ex at hdx
    cases hdx with
    | @sl _ _ _ _ r q _ hρ =>
      obtain ⟨l, hh, m, m', hk, hrun, hm, _⟩ := bounds_some (P := P) (w := w) (sl := true) (C := if op = true then cap + q else cap) (by split <;> omega) (evO_rel hlo he) (evO_rel hhi he) (evO_rel hmx he) h2
      have e1 : (⟨r, off, none⟩ : Addr).add (l * es) = ⟨r, off + l * es, none⟩ := Addr.add_mid r off (l * es)
      rcases ifB_or hk with ⟨_, hk⟩ | ⟨hop, hk⟩
      · cases hk
      · have hk := cutK_some hk
        cases op with
        | false =>
          simp only [Bool.false_eq_true, if_false] at hrun hex hm
          have hmm : m' = m := by rcases hm with ⟨_, a, b⟩ | ⟨_, a⟩ <;> omega
          subst hmm
          have d := Den.sl (len := hh - l) (cap := m' - l) (op := false) (o := if m' = l then off else off + l * es) hρ
          refine .pure hk hw d ?_
          by_cases hml : m' = l
          · simp [execOp, ho, hex, Instr.sliceAt, Instr.slice, run_underlying hu, hrun, sizeOf, typeInfo, hq, hsz, hml]
          · simp [execOp, ho, hex, Instr.sliceAt, Instr.slice, run_underlying hu, hrun, sizeOf, typeInfo, hq, hsz, hml, e1]
        | true =>
          have hml : l < m := ble_false (show Nat.ble m l = false from hop)
          have hml1 : ¬ m = l := by omega
          simp only [if_true] at hrun hex hm
          rw [if_neg hml1] at hk
          have fin : ∀ (op' : Bool) (C : Nat), m' ≠ l → Den ρ (.sl b (off + l * es) (hh - l) (m - l) op') (.slice (some ⟨r, off + l * es, none⟩) (hh - l) (m' - l)) → c (.sl b (off + l * es) (hh - l) (m - l) op') S = some z → OpVal P ρ S e o w c z := fun op' C hne d hk =>
            .pure hk hw d (by simp [execOp, ho, hex, Instr.sliceAt, Instr.slice, run_underlying hu, hrun, sizeOf, typeInfo, hq, hsz, hne, e1])
          rcases hm with ⟨hmx0, a, b'⟩ | ⟨hmx0, a⟩
          · have hn : isNone mx' = true := by cases mx' with
              | none => rfl
              | some y => cases hmx0
            have hk : c (.sl b (off + l * es) (hh - l) (m - l) true) S = some z := by
              have : ifB true (isNone mx') false = true := hn
              rw [this] at hk; exact hk
            have d := Den.sl (len := hh - l) (cap := m - l) (op := true) (o := off + l * es) hρ
            rw [if_pos rfl, show m - l + q = m' - l by omega] at d
            exact fin true 0 (by omega) d hk
          · have hn : isNone mx' = false := by cases mx' with
              | none => cases hmx0
              | some y => rfl
            have hk2 : c (.sl b (off + l * es) (hh - l) (m - l) false) S = some z := by
              have : ifB true (isNone mx') false = false := hn
              rw [this] at hk; exact hk
            have d := Den.sl (len := hh - l) (cap := m - l) (op := false) (o := off + l * es) hρ
            rw [if_neg (by decide)] at d
            have d : Den ρ (.sl b (off + l * es) (hh - l) (m - l) false) (.slice (some ⟨r, off + l * es, none⟩) (hh - l) (m' - l)) := by rw [a]; exact d
            exact fin false 0 (by omega) d hk2

theorem extract_eq (s : ByteArray) (l h : Nat) : s.extract l h = ⟨⟨(s.data.toList.drop l).take (h - l)⟩⟩ := by
  apply ByteArray.ext
  rw [ByteArray.data_extract]
  apply Array.toList_inj.1
  rw [Array.toList_extract]

theorem s_sliceString {ty : TypeId} {x : Operand} {lo hi : Option Operand} {x' : AR} {lo' hi' : Option AR} (ho : o.op = .slice ty x lo hi none) (hu : P.underlying ty = some .string)
    (hx : ofOperand x = some x') (hlo : ofOpt lo = some lo') (hhi : ofOpt hi = some hi') (he : EvRel ρ t e) (hw : WRel base ρ S w)
    (h : kSliceString x' lo' hi' t S c = some z) : OpVal P ρ S e o w c z := by
  obtain ⟨s, hv, h⟩ := onStr_some h
  have hdx := he x x' hx
  rw [hv] at hdx
  generalize hex : e x = ex at hdx
  cases hdx
  have hmx : OptRel ρ (none : Option AV) (none : Option Value) := .none
  obtain ⟨l, hh, m, m', hk, hrun, hm, _⟩ := bounds_some (P := P) (w := w) (sl := false) (C := s.size) (Nat.le_refl _) (evO_rel hlo he) (evO_rel hhi he) hmx h
  rw [dropU_eq, takeU_eq] at hk
  refine .pure hk hw (.str _) ?_
  have e1 := extract_eq s l hh
  rw [show (⟨⟨(s.data.toList.drop l).take (Nat.sub hh l)⟩⟩ : ByteArray) = s.extract l hh from e1.symm]
  simp [execOp, ho, hex, Instr.sliceAt, Instr.slice, run_underlying hu, hrun]
end Go.Proofs.YtpochibfjpanhaaGreat.Exe
