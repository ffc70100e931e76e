/- A part of the machine that reckons a closed run, and of the proof that what it says the given program does. No conditions. -/
import Derived.Test.YtpochibfjpanhaaGreatXu
import Derived.Laws.Small
set_option linter.unusedVariables false
set_option linter.unusedSimpArgs false
namespace Go.Proofs.YtpochibfjpanhaaGreat.Exe
open Go
variable {base w : World} {P : Program} {ρ : Rho} {S : AS} {t : T} {e : Operand → Value} {o : Oper} {c : K} {z : AV × Option AS}

theorem s_lenConst_array {x : Operand} {ats : Array TypeId} {ty el : TypeId} {n : Nat} (ho : o.op = .call { callee := .builtin .len, args := #[x], argTypes := ats }) (ha : ats[0]? = some ty) (hu : P.underlying ty = some (.array n el)) (hw : WRel base ρ S w)
    (h : kLenConst n t S c = some z) : OpVal P ρ S e o w c z :=
  .pure (u := .int .i64 n) h hw (.int _ _) (by simp [execOp, ho, resolve, invoke, builtin, Builtin.len_, ha, run_underlying hu, goInt])

theorem s_lenConst_ptr {x : Operand} {ats : Array TypeId} {ty ar el : TypeId} {n : Nat} (ho : o.op = .call { callee := .builtin .len, args := #[x], argTypes := ats }) (ha : ats[0]? = some ty) (hu : P.underlying ty = some (.pointer ar)) (hu2 : P.underlying ar = some (.array n el)) (hw : WRel base ρ S w)
    (h : kLenConst n t S c = some z) : OpVal P ρ S e o w c z :=
  .pure (u := .int .i64 n) h hw (.int _ _) (by simp [execOp, ho, resolve, invoke, builtin, Builtin.len_, ha, run_underlying hu, run_underlying hu2, goInt])


theorem xorB_eq (n b : Bool) : xorB n b = (n != b) := by cases n <;> cases b <;> rfl
/-- '==' and '!=' by what 'equal' says. -/
theorem run_eqOp {op : BinOp} {n : Bool} {ty yt : TypeId} {x y : Operand} {a b : Value} {r : Bool} (ho : o.op = .binOp op ty x y yt) (hop : negOf op = some n) (hex : e x = a) (hey : e y = b)
    (hg : ∀ op, (eqGuard op ty x y a b).run P w = .ok () w) (h1 : (binOp .eql ty a b) = (do pure (.bool (← Op.equal ty a b)))) (h2 : (binOp .neq ty a b) = (do pure (.bool (!(← Op.equal ty a b)))))
    (he : (Op.equal ty a b).run P w = .ok r w) : (execOp e o).run P w = .ok (.value (.bool (n != r))) w := by
  have hg' := hg op
  cases op <;> simp only [negOf, Option.some.injEq, reduceCtorEq] at hop
  · subst hop
    simp only [execOp, ho, hex, hey, h1, Sem.run_bind, hg', he, Result.andThen_ok]
    cases r <;> rfl
  · subst hop
    simp only [execOp, ho, hex, hey, h2, Sem.run_bind, hg', he, Result.andThen_ok]
    cases r <;> rfl

theorem s_eqBool {op : BinOp} {n : Bool} {ty yt : TypeId} {x y : Operand} {x' y' : AR} (ho : o.op = .binOp op ty x y yt) (hop : negOf op = some n) (hu : P.underlying ty = some .bool) (hx : ofOperand x = some x') (hy : ofOperand y = some y') (he : EvRel ρ t e) (hw : WRel base ρ S w)
    (h : kEqBool n x' y' t S c = some z) : OpVal P ρ S e o w c z := by
  obtain ⟨a, hva, h1⟩ := onBool_some h
  obtain ⟨b, hvb, h2⟩ := onBool_some h1
  have hdx := he x x' hx
  have hdy := he y y' hy
  rw [hva] at hdx
  rw [hvb] at hdy
  generalize hex : e x = ex at hdx
  generalize hey : e y = ey at hdy
  cases hdx
  cases hdy
  have e1 : ifB a b (ifB b false true) = (a == b) := by cases a <;> cases b <;> rfl
  rw [e1, xorB_eq] at h2
  exact .pure h2 hw (.bool _) (run_eqOp ho hop hex hey (fun op => by cases op <;> rfl) rfl rfl (run_equal_bool w ty a b hu))

/-- Of which kind a type's nil is. -/
def nilKind : TypeDesc → Nat
  | .pointer _ => 1 | .slice _ => 2 | .map _ _ => 3 | .func _ _ _ => 4 | .interface _ => 5 | _ => 0

theorem equal_nil {ty : TypeId} {d : TypeDesc} {x y : AV} {a b : Value} {r : Bool} (hu : P.underlying ty = some d) (hk : nilKind d ≠ 0) (hx : isKind (nilKind d) x = true) (hy : isKind (nilKind d) y = true) (dx : Den ρ x a) (dy : Den ρ y b) (h : nilEq x y = some r) :
    (Op.equal ty a b).run P w = .ok r w ∧ (binOp .eql ty a b) = (do pure (.bool (← Op.equal ty a b))) ∧ (binOp .neq ty a b) = (do pure (.bool (!(← Op.equal ty a b)))) ∧ ∀ op u v, (eqGuard op ty u v a b).run P w = .ok () w := by
  have key : ∀ n : Nat, (Op.equalIn (n + 1) ty a b).run P w = .ok r w := by
    intro n
    unfold Op.equalIn
    rw [Sem.run_bind, run_underlying hu]
    cases d <;> first | exact absurd rfl hk | skip
    all_goals cases dx <;> first | exact Bool.noConfusion (show false = true from hx) | skip
    all_goals cases dy <;> first | exact Bool.noConfusion (show false = true from hy) | skip
    all_goals first | (cases h; rfl) | (cases h)
  refine ⟨key 9999, ?_⟩
  cases d <;> first | exact absurd rfl hk | skip
  all_goals cases dx <;> first | exact Bool.noConfusion (show false = true from hx) | skip
  all_goals cases dy <;> first | exact Bool.noConfusion (show false = true from hy) | skip
  all_goals first | (cases h; done) | exact ⟨rfl, rfl, fun op u v => by cases op <;> rfl⟩

theorem s_eqNil {op : BinOp} {n : Bool} {ty yt : TypeId} {d : TypeDesc} {x y : Operand} {x' y' : AR} (ho : o.op = .binOp op ty x y yt) (hop : negOf op = some n) (hu : P.underlying ty = some d) (hk : nilKind d ≠ 0) (hx : ofOperand x = some x') (hy : ofOperand y = some y') (he : EvRel ρ t e) (hw : WRel base ρ S w)
    (h : kEqNil (nilKind d) n x' y' t S c = some z) : OpVal P ρ S e o w c z := by
  obtain ⟨h1, h2⟩ := ifB_some h
  obtain ⟨h3, h4⟩ := ifB_some h2
  obtain ⟨r, h5, h6⟩ := onSome_some h4
  obtain ⟨a1, a2, a3, a4⟩ := equal_nil (P := P) (w := w) hu hk h1 h3 (he x x' hx) (he y y' hy) h5
  rw [xorB_eq] at h6
  exact .pure h6 hw (.bool _) (run_eqOp ho hop rfl rfl (fun op => a4 op x y) a2 a3 a1)
end Go.Proofs.YtpochibfjpanhaaGreat.Exe
