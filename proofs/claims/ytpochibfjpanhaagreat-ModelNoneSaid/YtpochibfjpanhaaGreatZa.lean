/- A part of the machine that reckons a closed run, and of the proof that what it says the given program does. No conditions. -/
import Derived.Test.YtpochibfjpanhaaGreatYg
import Derived.Maps.RangeRun
set_option linter.unusedVariables false
set_option linter.unusedSimpArgs false
namespace Go.Proofs.YtpochibfjpanhaaGreat.Exe
open Go
variable {base w : World} {P : Program} {ρ : Rho} {S : AS} {t : T} {e : Operand → Value} {o : Oper} {c : K} {z : AV × Option AS}

/-! ### A range over a map -/
theorem nilNo_three {v : AV} (h : Nat.beq (nilNo v) 3 = true) : v = .mnil := by
  cases v <;> first | rfl | cases h
theorem onIter_some {b : Nat} {k : Option Nat → Nat → List Nat → Nat → R} (h : onIter S b k = some z) : ∃ m since seen last, S.heap.getK b = some (.iter m since seen last) ∧ k m since seen last = some z := by
  obtain ⟨o, ho, h⟩ := onSome_some h
  cases o with
  | iter m since seen last => exact ⟨m, since, seen, last, ho, h⟩
  | _ => exact absurd h (by intro h; cases h)
theorem Ents.of_mem : ∀ {es : List (AV × AV × Nat)} {ms : List MapEntry}, Ents ρ es ms → ∀ m ∈ ms, ∃ x ∈ es, Den ρ x.1 m.key ∧ Den ρ x.2.1 m.val ∧ m.born = x.2.2
  | _, _, .nil, _, h => by cases h
  | _, _, .cons a b c d, m, h => by
    rcases List.mem_cons.1 h with rfl | h
    · exact ⟨_, List.mem_cons_self, a, b, c⟩
    · obtain ⟨x, hx, r⟩ := d.of_mem m h
      exact ⟨x, List.mem_cons_of_mem _ hx, r⟩
theorem Ents.mem_of : ∀ {es : List (AV × AV × Nat)} {ms : List MapEntry}, Ents ρ es ms → ∀ x ∈ es, ∃ m ∈ ms, m.born = x.2.2
  | _, _, .nil, _, h => by cases h
  | _, _, .cons a b c d, x, h => by
    rcases List.mem_cons.1 h with rfl | h
    · exact ⟨_, List.mem_cons_self, c⟩
    · obtain ⟨m, hm, r⟩ := d.mem_of x h
      exact ⟨m, List.mem_cons_of_mem _ hm, r⟩
theorem s_mrange {ty kt el : TypeId} {x : Operand} {x' : AR} (ho : o.op = .range ty x) (hu : P.underlying ty = some (.map kt el)) (hx : ofOperand x = some x') (he : EvRel ρ t e) (hw : WRel base ρ S w) (h : kMRange x' t S c = some z) : OpPost base P ρ S e o w c z := by
  have hdx := he x x' hx
  have hle := Rho.le_add (r := (w.heap.size, 0)) (hw.dom _ (Nat.le_refl _))
  rcases ifB_or (show ifB (Nat.beq (nilNo (ev x' t)) 3) _ (onMap (ev x' t) _) = some z from h) with ⟨hn, h⟩ | ⟨_, h⟩
  · rw [nilNo_three hn] at hdx
    generalize hex : e x = ex at hdx
    cases hdx
    refine ⟨_, _, _, _, _, newK_some h, hle, .new, hw.alloc _ (.mapIter none 0 #[] 0) 0 (.iter (seen := []) trivial), .ptr (Rho.add_same _ _ _), .inl ?_⟩
    simp [execOp, ho, hex, run_range_nilMap w ty kt el hu]
  · obtain ⟨b, hv, h⟩ := onMap_some h
    obtain ⟨es, cl, hb, h⟩ := onMapO_some h
    rw [hv] at hdx
    generalize hex : e x = ex at hdx
    cases hdx with
    | @map _ r q hρ =>
      obtain ⟨ms, hms, hE⟩ := hw.map hb hρ
      refine ⟨_, _, _, _, _, newK_some h, hle, .new, hw.alloc _ (.mapIter (some r) cl #[] cl) 0 (.iter (seen := []) ⟨q, hle _ _ hρ⟩), .ptr (Rho.add_same _ _ _), .inl ?_⟩
      simp [execOp, ho, hex, run_range_map w ty kt el r ms.toArray cl hu hms]
theorem next_ok {v : AV} {ux : Value} (hdx : Den ρ v ux) (hw : WRel base ρ S w) (h : nextV v S c = some z) :
    ∃ v1 S' ρ' w' u, c v1 S' = some z ∧ ρ.le ρ' ∧ Keep ρ ρ' S S' ∧ WRel base ρ' S' w' ∧ Den ρ' v1 u ∧ ∀ ty, (Instr.next ux false ty).run P w = .ok u w' := by
  obtain ⟨b, q, hv, h⟩ := onPtr_some h
  obtain ⟨hq, h⟩ := ifB_some h
  have hq := beq_true hq
  subst hq
  obtain ⟨m, since, seen, last, hb, h⟩ := onIter_some h
  rw [hv] at hdx
  cases hdx with
  | @ptr _ _ r q hρ =>
    obtain ⟨u, hu, hrel⟩ := hw.obj b _ r q hb hρ
    cases hrel with
    | @iter _ m' _ _ _ hm =>
      cases m with
      | none =>
        cases m' with
        | some _ => exact hm.elim
        | none =>
          refine ⟨_, _, ρ, w, _, h, ρ.le_refl, .refl ρ S, hw, .tup (.cons (.bool false) .nil), fun ty => ?_⟩
          simp [Instr.next, getObj, Sem.run, hu, Result.andThen]
      | some mb =>
        cases m' with
        | none => exact hm.elim
        | some rm =>
          obtain ⟨qm, hρm⟩ := hm
          obtain ⟨es, cl, hmb, h⟩ := onMapO_some (show onMapO S mb _ = some z from h)
          obtain ⟨hsl, h⟩ := ifB_some h
          obtain ⟨hold, h⟩ := ifB_some h
          obtain ⟨ms, hms, hE⟩ := hw.map hmb hρm
          have hold' : ∀ y ∈ ms.toArray.toList, y.born < since := fun y hy => by
            obtain ⟨e1, he1, _, _, hb1⟩ := hE.of_mem y (by simpa using hy)
            rw [hb1]
            exact oldK_mem hold e1 he1
          rcases run_next_at (P := P) w 0 r rm since last seen.toArray ms.toArray cl hu hms hold' (ble_true hsl) with ⟨h0, hrun⟩ | ⟨y, hy, w1, hal, hrun⟩
          · have hl : leftK seen es = [] := by
              rw [leftK_eq, List.filter_eq_nil_iff]
              intro e1 he1 hc
              obtain ⟨y, hy, hby⟩ := hE.mem_of e1 he1
              have hmem : y ∈ (leftOf ms.toArray seen.toArray).toList := by
                unfold leftOf
                simp only [Array.toList_filter]
                refine List.mem_filter.2 ⟨by simpa using hy, ?_⟩
                rw [hby]
                simpa using hc
              have : (leftOf ms.toArray seen.toArray).toList = [] := List.length_eq_zero_iff.1 (by rw [Array.length_toList]; exact h0)
              rw [this] at hmem
              cases hmem
            rw [hl] at h
            refine ⟨_, _, ρ, w, _, h, ρ.le_refl, .refl ρ S, hw, .tup (.cons (.bool false) .nil), fun ty => hrun⟩
          · have hy' : y ∈ ms ∧ seen.contains y.born = false := by
              unfold leftOf at hy
              simp only [Array.toList_filter] at hy
              obtain ⟨h1, h2⟩ := List.mem_filter.1 hy
              exact ⟨by simpa using h1, by simpa using h2⟩
            obtain ⟨e1, he1, hk1, hv1, hb1⟩ := hE.of_mem y hy'.1
            have hmem : e1 ∈ leftK seen es := by
              rw [leftK_eq]
              refine List.mem_filter.2 ⟨he1, ?_⟩
              rw [← hb1, hy'.2]
              rfl
            have hc := branchK_mem h e1 hmem
            have hput : WRel base ρ (putK S b (.iter (some mb) since (List.append seen [e1.2.2]) cl)) (w1.putObj r (.mapIter (some rm) since (seen.toArray.push y.born) cl)) := by
              have ho2 : ORel ρ q (.iter (some mb) since (List.append seen [e1.2.2]) cl) (.mapIter (some rm) since (seen.toArray.push y.born) cl) := by
                have : seen.toArray.push y.born = (List.append seen [e1.2.2]).toArray := by
                  rw [hb1]
                  show seen.toArray.push e1.2.2 = (seen ++ [e1.2.2]).toArray
                  simp
                rw [this]
                exact .iter ⟨qm, hρm⟩
              rcases hal with rfl | rfl
              · exact hw.put ⟨_, hb⟩ hρ ho2
              · exact hw.drew.put ⟨_, hb⟩ hρ ho2
            refine ⟨_, _, ρ, _, _, hc, ρ.le_refl, .put hρ, hput, .tup (.cons (.bool true) (.cons hk1 (.cons hv1 .nil))), fun ty => hrun⟩
theorem born_rel : ∀ {es : List (AV × AV × Nat)} {ms : List MapEntry} {n : Nat} {x : AV × AV × Nat}, Ents ρ es ms → bornK n es = some x → ∃ m, ms.find? (·.born == n) = some m ∧ Den ρ x.1 m.key ∧ Den ρ x.2.1 m.val
  | _, _, _, _, .nil, h => by cases h
  | (k, v, b) :: es, m :: ms, n, x, .cons d1 d2 d3 d4, h => by
    rcases ifB_or (show ifB (Nat.beq b n) (some (k, v, b)) (bornK n es) = some x from h) with ⟨h1, h2⟩ | ⟨h1, h2⟩
    · cases h2
      have hb := beq_true h1
      exact ⟨m, by rw [List.find?_cons]; simp [d3, hb], d1, d2⟩
    · obtain ⟨m', g1, g2⟩ := born_rel d4 h2
      refine ⟨m', ?_, g2⟩
      have hne : (m.born == n) = false := by
        rw [d3]
        cases hq : b == n with
        | false => rfl
        | true => rw [beq_iff_eq.1 hq] at h1; simp at h1
      rw [List.find?_cons, hne]
      exact g1
theorem s_mentry {x : Operand} {x' : AR} (ho : o.op = .entry x) (hx : ofOperand x = some x') (he : EvRel ρ t e) (hw : WRel base ρ S w) (h : kMEntry x' t S c = some z) : OpVal P ρ S e o w c z := by
  have hdx := he x x' hx
  obtain ⟨b, q, hv, h⟩ := onPtr_some h
  obtain ⟨hq, h⟩ := ifB_some h
  have hq := beq_true hq
  subst hq
  obtain ⟨m, since, seen, last, hb, h⟩ := onIter_some h
  rw [hv] at hdx
  generalize hex : e x = ex at hdx
  cases hdx with
  | @ptr _ _ r q hρ =>
    obtain ⟨u, hu, hrel⟩ := hw.obj b _ r q hb hρ
    cases hrel with
    | @iter _ m' _ _ _ hm =>
      cases m with
      | none => cases h
      | some mb =>
        cases m' with
        | none => exact hm.elim
        | some rm =>
          obtain ⟨qm, hρm⟩ := hm
          cases hbk : backK seen with
          | none =>
            have h : (Option.rec (motive := fun _ => R) none (fun stamp => onMapO S mb fun es clock => ifB (Nat.beq clock last) (Option.rec (motive := fun _ => R) none (fun e => c (.tup [e.1, e.2.1]) S) (bornK stamp es)) none) (backK seen) : R) = some z := h
            rw [hbk] at h
            cases h
          | some stamp =>
            have h : (Option.rec (motive := fun _ => R) none (fun stamp => onMapO S mb fun es clock => ifB (Nat.beq clock last) (Option.rec (motive := fun _ => R) none (fun e => c (.tup [e.1, e.2.1]) S) (bornK stamp es)) none) (backK seen) : R) = some z := h
            rw [hbk] at h
            obtain ⟨es, cl, hmb, h⟩ := onMapO_some (show onMapO S mb _ = some z from h)
            obtain ⟨hcl, hq2⟩ := ifB_some h
            have hcl := beq_true hcl
            subst hcl
            obtain ⟨ms, hms, hE⟩ := hw.map hmb hρm
            cases hbo : bornK stamp es with
            | none => rw [hbo] at hq2; cases hq2
            | some y =>
              rw [hbo] at hq2
              obtain ⟨me, g1, g2, g3⟩ := born_rel hE hbo
              refine .pure hq2 hw (.tup (.cons g2 (.cons g3 .nil))) ?_
              rw [backK_eq] at hbk
              have e1 : seen.toArray.back? = some stamp := by rw [List.back?_toArray]; exact hbk
              simp [execOp, ho, hex, Instr.entry, getObj, Sem.run, hu, hms, e1, g1, Result.andThen]
end Go.Proofs.YtpochibfjpanhaaGreat.Exe
