/- A part of the machine that reckons a closed run, and of the proof that what it says the given program does. No conditions. -/
import Derived.Test.YtoldaakppnbhjaaGreatYi
set_option linter.unusedVariables false
set_option linter.unusedSimpArgs false
namespace Go.Proofs.YtoldaakppnbhjaaGreat.Exe
open Go
variable {base w : World} {P : Program} {ρ : Rho} {S : AS} {t : T} {o : Oper} {c : K} {z : AV × AS} {a : Act}

def NamesOk (P : Program) : Prop := ∀ (g : FuncId) (fn : Func), P.funcs[g]? = some fn → (fn.name == "runtime.NumGoroutine") = false

theorem stepC_none {cl : Cl} : stepC AO.none cl t S c = none := rfl
theorem compOp_some {cl : Cl} (h : stepC (compOp P o) cl t S c = some z) : compOp? P o = some (compOp P o) := by
  unfold compOp at h ⊢
  cases hc : compOp? P o with
  | none => rw [hc] at h; cases h
  | some x => rfl

theorem gen_wp {cl : Cl} {next : Act → World → Prop} {Q : Exit → Act → World → Prop} (hN : NamesOk P) (hcl : ClOK P cl) (he : EvRel ρ t a.eval) (hw : WRel base ρ S w)
    (h : stepC (compOp P o) cl t S c = some z) (hn : Goes base ρ S o a c z next) : o.wp P a w next Q := by
  have hx := compOp_some h
  cases hc : isCall (compOp P o) with
  | true => exact sound_callOp hN hcl hx hc he hw h hn
  | false =>
    rw [stepC_plain hc] at h
    exact plain_wp (sound_of hx) he hw h hn

theorem compL_cons (x : AOp) (r : List AOp) (cl : Cl) (t : T) (S : AS) (k : KL) : runL (compL (x :: r)) cl t S k =
    wantC x.guard t fun b => ifB b (stepC x.op cl t S fun v S => runL (compL r) cl (putT x.dst v t) S k) (runL (compL r) cl (putT x.dst (.tup []) t) S k) := by
  obtain ⟨dst, op, guard⟩ := x
  cases guard with
  | some g => cases dst <;> exact lGen_eq _ (compL r) _ _ _ _ _
  | none =>
    cases dst with
    | none => exact lGen_eq _ (compL r) _ _ _ _ _
    | some p =>
      show runL (bif isCall op then .gen ⟨some p, op, none⟩ (compL r) else .op p op (compL r)) cl t S k = _
      cases hc : isCall op with
      | true => exact lGen_eq _ (compL r) _ _ _ _ _
      | false =>
        refine (lOp_eq _ _ (compL r) _ _ _ _ _).trans ?_
        show opK op t S (fun v S => runL (compL r) cl (T.setP v p t) S k) = stepC op cl t S fun v S => runL (compL r) cl (putT (some p) v t) S k
        rw [stepC_plain hc]
        rfl

/-- What a region's end must meet. -/
def Ends (base : World) (ρ : Rho) (S : AS) (k : KL) (z : AV × AS) (N : Nat) (q : Act → World → Prop) : Prop :=
  ∀ t' S' ρ' a' w', k t' S' = some z → ρ.le ρ' → Keep ρ ρ' S S' → RelA base ρ' S' w' t' a' N → q a' w'
theorem Ends.step {k : KL} {N : Nat} {q : Act → World → Prop} (h : Ends base ρ S k z N q) {ρ' : Rho} {S' : AS} (hl : ρ.le ρ') (hk : Keep ρ ρ' S S') : Ends base ρ' S' k z N q :=
  fun t' S'' ρ'' a' w' h1 h2 h3 h4 => h t' S'' ρ'' a' w' h1 (Rho.le_trans hl h2) (hk.trans h3) h4

theorem dstsOk_at {n : Nat} {ops : Array Oper} (h : dstsOk n ops = true) {i : Nat} {o : Oper} (ho : ops[i]? = some o) : ∀ d, o.dst = some d → d < n := by
  intro d hd
  have := List.all_eq_true.1 h o (by
    have : o ∈ ops := Array.mem_of_getElem? ho
    simpa using this)
  rw [hd] at this
  exact ble_true this

theorem plain_region {cl : Cl} {Q : Exit → Act → World → Prop} {ops : Array Oper} {N : Nat} {k : KL} (hN : NamesOk P) (hcl : ClOK P cl) (hd : dstsOk N ops = true) :
    ∀ (l : List Oper) (i : Nat) (ρ : Rho) (S : AS) (w : World) (t : T) (a : Act), ops.toList.drop i = l → RelA base ρ S w t a N → runL (compL (l.map (compOper P ops))) cl t S k = some z → Ends base ρ S k z N (Q .normal) →
      wpOps P ops Q (List.range' i l.length) a w
  | [], i, ρ, S, w, t, a, hl, hr, h, hq => hq t S ρ a w h ρ.le_refl (.refl ρ S) hr
  | o :: l, i, ρ, S, w, t, a, hl, hr, h, hq => by
    have ho : ops[i]? = some o := by
      have : (ops.toList.drop i)[0]? = some o := by rw [hl]; rfl
      rw [List.getElem?_drop] at this
      simpa using this
    have hl' : ops.toList.drop (i + 1) = l := by rw [← List.drop_drop, hl]; rfl
    rw [List.map_cons, compL_cons, compOper_guard] at h
    have h := wantC_some (o := o) (ops := ops) (a := a) rfl (fun n _ => hr.tmps n) h
    show wpOps P ops Q (i :: List.range' (i + 1) l.length) a w
    have hput : ∀ {ρ' : Rho} {v : AV} {u : Value}, TRel ρ' t a → Den ρ' v u → TRel ρ' (putT (o.dst.map pathOf) v t) (a.put o.dst u) := fun ht hv => putT_rel ht hv _ (fun n hn => by rw [hr.size]; exact dstsOk_at hd ho n hn)
    cases hw : Region.wanted o (yielded ops a.tmps) with
    | true =>
      rw [hw] at h
      have h : stepC (compOp P o) cl t S (fun v S => runL (compL (l.map (compOper P ops))) cl (putT (o.dst.map pathOf) v t) S k) = some z := h
      unfold wpOps
      rw [ho]
      simp only [hw, if_true]
      refine .inl (gen_wp hN hcl hr.tmps.ev hr.world h fun v S' ρ' w' u h1 h2 h3 h4 h5 => ?_)
      exact plain_region hN hcl hd l (i + 1) ρ' S' w' _ _ hl' ⟨h4, hput (hr.tmps.mono h2) h5, by rw [put_defers]; exact hr.defers, by rw [put_size]; exact hr.size⟩ h1 (hq.step h2 h3)
    | false =>
      rw [hw] at h
      have h : runL (compL (l.map (compOper P ops))) cl (putT (o.dst.map pathOf) (.tup []) t) S k = some z := h
      unfold wpOps
      rw [ho]
      simp only [hw, if_false, Bool.false_eq_true]
      exact plain_region hN hcl hd l (i + 1) ρ S w _ _ hl' ⟨hr.world, hput hr.tmps (.tup .nil), by rw [put_defers]; exact hr.defers, by rw [put_size]; exact hr.size⟩ h hq
end Go.Proofs.YtoldaakppnbhjaaGreat.Exe
