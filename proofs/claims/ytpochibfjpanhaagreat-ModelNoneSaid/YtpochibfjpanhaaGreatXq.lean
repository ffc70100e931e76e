/- A part of the machine that reckons a closed run, and of the proof that what it says the given program does. No conditions. -/
import Derived.Test.YtpochibfjpanhaaGreatXn
set_option linter.unusedVariables false
set_option linter.unusedSimpArgs false
namespace Go.Proofs.YtpochibfjpanhaaGreat.Exe
open Go
variable {base w : World} {P : Program} {ρ : Rho} {S : AS} {t : T} {e : Operand → Value} {o : Oper} {c : K} {z : AV × Option AS}

theorem s_field {ty : TypeId} {x : Operand} {x' : AR} {i n : Nat} {fs : Array Field} {f : Field} {d : TypeDesc} (ho : o.op = .field ty x i) (hu : P.underlying ty = some (.struct fs)) (hf : fs[i]? = some f) (hd : P.underlying f.type = some d) (hn : (P.info? f.type).map (·.size) = some n)
    (hx : ofOperand x = some x') (he : EvRel ρ t e) (hw : WRel base ρ S w) (h : kField (aggT P f.type) f.offset n x' t S c = some z) : OpVal P ρ S e o w c z := by
  obtain ⟨cs, hv, h⟩ := onAgg_some h
  obtain ⟨v, hval, h⟩ := retO_some h
  have hdx := he x x' hx
  rw [hv] at hdx
  generalize hex : e x = ex at hdx
  obtain ⟨us, rfl, hc, _⟩ := row_cells hdx
  cases hq : P.info? f.type with
  | none => rw [hq] at hn; cases hn
  | some ti =>
    have hsz : ti.size = n := by rw [hq] at hn; simpa using hn
    rcases valueK_some hc hval with ⟨ha, hlen, hden⟩ | ⟨ha, u, hu', hden, _⟩
    · obtain ⟨d', hd', hrow⟩ := aggT_true ha
      have hagg : (isAgg f.type).run P w = .ok true w := by
        unfold isAgg
        rw [Sem.run_bind, run_underlying hd' w]
        cases d' <;> first | rfl | cases hrow
      have e1 : us.toArray.extract f.offset (f.offset + n) = ((us.drop f.offset).take n).toArray := by
        simp
      exact .pure h hw hden (by simp [execOp, ho, hex, Instr.field, run_underlying hu, hf, asAgg, part, hagg, sizeOf, typeInfo, hq, hsz])
    · exact .pure h hw hden (by simp [execOp, ho, hex, Instr.field, run_underlying hu, hf, asAgg, part, run_isAgg_false hd ha, hu'])

theorem s_makeFunc {f : FuncId} {a b : Array Operand} {a' b' : List AR} (ho : o.op = .makeFunc (.func f) a b) (ha : ofOperands a.toList = some a') (hb : ofOperands b.toList = some b') (he : EvRel ρ t e) (hw : WRel base ρ S w)
    (h : kMakeFunc f a' b' t S c = some z) : OpVal P ρ S e o w c z := by
  have key : ∀ (l : List Operand) (l' : List AR), ofOperands l = some l' → DenL ρ (evs l' t) (l.map e) := by
    intro l
    induction l with
    | nil => intro l' h; cases h; exact .nil
    | cons x r ih =>
      intro l' h
      unfold ofOperands at h
      cases hx : ofOperand x with
      | none => rw [hx] at h; cases h
      | some y =>
        rw [hx] at h
        cases hr : ofOperands r with
        | none => rw [hr] at h; cases h
        | some r' => rw [hr] at h; cases h; exact .cons (he x y hx) (ih r' hr)
  have d := Den.fn (f := f) (key _ _ ha) (key _ _ hb)
  have m1 : ∀ q : Array Operand, Array.map e q = (List.map e q.toList).toArray := fun q => by apply Array.toList_inj.1; simp
  exact .pure h hw d (by simp only [execOp, ho, Instr.makeFunc, m1]; rfl)

theorem s_makeIface {ty : TypeId} {x : Operand} {x' : AR} {d : TypeDesc} (ho : o.op = .makeInterface ty x) (hu : P.underlying ty = some d) (hd : ∀ ms, d ≠ .interface ms) (hx : ofOperand x = some x') (he : EvRel ρ t e) (hw : WRel base ρ S w) (h : kMakeIface ty x' t S c = some z) : OpVal P ρ S e o w c z :=
  .pure h hw (.ifc (he x x' hx)) (by
    simp only [execOp, ho, Instr.makeInterface, Sem.run_bind, run_underlying hu, Result.andThen_ok]
    cases d <;> first | rfl | exact absurd rfl (hd _))

theorem s_s2ap {ty el : TypeId} {x : Operand} {x' : AR} {n : Nat} (ho : o.op = .sliceToArrayPointer ty x) (hu : P.underlying ty = some (.array n el)) (hx : ofOperand x = some x') (he : EvRel ρ t e) (hw : WRel base ρ S w) (h : kS2ap n x' t S c = some z) : OpVal P ρ S e o w c z := by
  obtain ⟨b, off, len, cap, op, hv, h⟩ := onSl_some h
  obtain ⟨h1, h⟩ := ifB_some h
  have h1 := ble_true h1
  have hdx := he x x' hx
  rw [hv] at hdx
  generalize hex : e x = ex at hdx
  cases hdx with
  | @sl _ _ _ _ r q _ hρ =>
    have h2 : ¬ len < n := by omega
    exact .pure h hw (.ptr hρ) (by simp [execOp, ho, hex, Instr.arrayAt, run_underlying hu, h2])
end Go.Proofs.YtpochibfjpanhaaGreat.Exe
