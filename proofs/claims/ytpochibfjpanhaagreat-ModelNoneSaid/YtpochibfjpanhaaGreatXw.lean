/- A part of the machine that reckons a closed run, and of the proof that what it says the given program does. No conditions. -/
import Derived.Test.YtpochibfjpanhaaGreatXv
set_option linter.unusedVariables false
set_option linter.unusedSimpArgs false
namespace Go.Proofs.YtpochibfjpanhaaGreat.Exe
open Go
variable {base w : World} {P : Program} {ρ : Rho} {S : AS} {t : T} {e : Operand → Value} {o : Oper} {c : K} {z : AV × Option AS}

theorem WRel.map (h : WRel base ρ S w) {b r x k : Nat} {es : List (AV × AV × Nat)} (hb : S.heap.getK b = some (.map es k)) (er : ρ b = some (r, x)) : ∃ ms, w.heap[r]? = some (.map ms.toArray k) ∧ Ents ρ es ms := by
  obtain ⟨u, hu, ho⟩ := h.obj b _ r x hb er
  cases ho with
  | map a => exact ⟨_, hu, a⟩
theorem Ents.length {ρ : Rho} : ∀ {es : List (AV × AV × Nat)} {ms : List MapEntry}, Ents ρ es ms → es.length = ms.length
  | _, _, .nil => rfl
  | _, _, .cons _ _ _ h => by simp [h.length]
theorem run_getObj_map {r k : Nat} {ms : List MapEntry} (h : w.heap[r]? = some (.map ms.toArray k)) : (getObj r).run P w = .ok (.map ms.toArray k) w := by
  simp [getObj, Sem.run, h]

theorem lenK_some {n : Nat} (h : lenK n S c = some z) : c (.int .i64 n) S = some z := by
  unfold lenK at h
  rw [forceN_eq] at h
  exact h

theorem s_lenAny {x : Operand} {x' : AR} {ats : Array TypeId} {ty : TypeId} {d : TypeDesc} (ho : o.op = .call { callee := .builtin .len, args := #[x], argTypes := ats }) (ha : ats[0]? = some ty) (hu : P.underlying ty = some d)
    (hty : ∀ u v, ev x' t = v → Den ρ v u → match d, v with | .string, .str _ | .slice _, .snil | .slice _, .sl .. | .map _ _, .mnil | .map _ _, .map _ => True | _, _ => False)
    (hx : ofOperand x = some x') (he : EvRel ρ t e) (hw : WRel base ρ S w) (h : kLenAny x' t S c = some z) : OpVal P ρ S e o w c z := by
  have hdx := he x x' hx
  have ht := hty _ _ rfl hdx
  unfold kLenAny at h
  generalize hv : ev x' t = v at h hdx ht
  generalize hex : e x = ex at hdx
  have base0 : ∀ {u : Value}, (Builtin.len_ ats o.type #[e x]).run P w = .ok u w → (execOp e o).run P w = .ok (.value u) w := fun hr => by
    simp [execOp, ho, resolve, invoke, builtin, hr]
  cases hdx <;> first | (cases d <;> exact ht.elim) | skip
  · have h := lenK_some h
    cases d <;> first | exact ht.elim | skip
    exact .pure h hw (.int _ _) (base0 (by simp [hex, Builtin.len_, ha, run_underlying hu, goInt]))
  · have h := lenK_some h
    cases d <;> first | exact ht.elim | skip
    exact .pure h hw (.int _ _) (base0 (by simp [hex, Builtin.len_, ha, run_underlying hu, goInt]))
  · have h := lenK_some h
    cases d <;> first | exact ht.elim | skip
    exact .pure h hw (.int _ _) (base0 (by simp [hex, Builtin.len_, ha, run_underlying hu, goInt]))
  · have h := lenK_some h
    cases d <;> first | exact ht.elim | skip
    exact .pure h hw (.int _ _) (base0 (by simp [hex, Builtin.len_, ha, run_underlying hu, goInt]))
  · rename_i b r q hρ
    obtain ⟨es, k, hb, h⟩ := onMapO_some h
    have h := lenK_some h
    obtain ⟨ms, hm, hE⟩ := hw.map hb hρ
    cases d <;> first | exact ht.elim | skip
    exact .pure h hw (.int _ _) (base0 (by simp [hex, Builtin.len_, ha, run_underlying hu, run_getObj_map hm, goInt, hE.length]))

theorem s_makeMap {ty : TypeId} (ho : o.op = .makeMap ty none) : OpMk P ρ e o w (.map [] 0) (fun b => .map b) := by
  refine ⟨0, .map #[] 0, .map (some w.heap.size), w, .inl rfl, fun ρ' _ => .map .nil, fun ρ' b hρ => .map hρ, ?_⟩
  simp [execOp, ho, Instr.makeMap, newObj]
  rfl

/-! ### Maps -/
theorem strEq_eq (a b : ByteArray) : strEq a b = (a.data.toList == b.data.toList) := by
  have key : ∀ (x y : List UInt8), listEq x y = (x == y) := by
    intro x
    induction x with
    | nil => intro y; cases y <;> rfl
    | cons p r ih =>
      intro y
      cases y with
      | nil => rfl
      | cons q s =>
        show ifB (Nat.beq p.toNat q.toNat) (listEq r s) false = _
        rw [ih s]
        by_cases h : p = q
        · subst h; rw [Nat.beq_refl]; show (r == s) = _; simp
        · have h1 : Nat.beq p.toNat q.toNat = false := by
            rw [Bool.eq_false_iff]
            intro e
            exact h (UInt8.toNat_inj.1 (beq_true e))
          rw [h1]
          show false = _
          symm
          simp [h]
  exact key _ _
end Go.Proofs.YtpochibfjpanhaaGreat.Exe
