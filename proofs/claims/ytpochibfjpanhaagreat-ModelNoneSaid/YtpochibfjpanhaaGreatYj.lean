/- A part of the machine that reckons a closed run, and of the proof that what it says the given program does. No conditions. -/
import Derived.Test.YtpochibfjpanhaaGreatYi
set_option linter.unusedVariables false
set_option linter.unusedSimpArgs false
namespace Go.Proofs.YtpochibfjpanhaaGreat.Exe
open Go
variable {base w : World} {P : Program} {ρ : Rho} {S : AS} {t : T} {o : Oper} {c : K} {z : AV × Option AS} {a : Act}

def NamesOk (P : Program) : Prop := ∀ (g : FuncId) (fn : Func), P.funcs[g]? = some fn → (fn.name == "runtime.NumGoroutine") = false

theorem stepC_none {cl : Cl} : stepC AO.none cl t S c = none := rfl
theorem compOp_some {cl : Cl} (h : stepC (compOp P o) cl t S c = some z) : compOp? P o = some (compOp P o) := by
  unfold compOp at h ⊢
  cases hc : compOp? P o with
  | none => rw [hc] at h; cases h
  | some x => rfl

theorem not_defer {x : AO} (hx : compOp? P o = some x) (hc : isCall x = false) : ∀ c, o.op ≠ .defer c := fun c e => by
  obtain ⟨dst, op, type, pos, after, guard⟩ := o
  subst e
  obtain ⟨callee, args, ats⟩ := c
  cases callee with
  | value f =>
    obtain ⟨x', _, h1⟩ := bind_some (show (ofOperand f).bind (fun f => (ofOperands args.toList).map fun a => AO.defer f a) = some x from hx)
    obtain ⟨_, _, rfl⟩ := map_some h1
    cases hc
  | _ => cases hx
theorem value_wp {next : Act → World → Prop} {Q : Exit → Act → World → Prop} {ro : Option Nat} {u : Value} {w' : World} (hd : ∀ c, o.op ≠ .defer c) (hr : (execOp a.eval o).run P w = .ok (.value u) w') (hn : next (a.put o.dst u) w') : o.wpIn (FW ro) 0 P a w next Q := by
  unfold Oper.wpIn
  refine ⟨fun _ _ => trivial, ?_⟩
  rw [Oper.semAt_eq _ _ _ hd, hr]
  exact hn
theorem class_call {x : AO} (h : isVal x = true ∨ isMk x = true) : isCall x = false := by
  cases hc : isCall x with
  | false => rfl
  | true =>
    obtain ⟨h1, h2⟩ := isCall_class hc
    rcases h with h | h
    · rw [h1] at h; cases h
    · rw [h2] at h; cases h
theorem gen_wp {cl : Cl} {next : Act → World → Prop} {Q : Exit → Act → World → Prop} {ro : Option Nat} (hN : NamesOk P) (hcl : ClOK P cl) (he : EvRel ρ t a.eval) (hw : WRel base ρ S w)
    (h : stepC (compOp P o) cl t S c = some z) (hn : Goes base ρ S o a c z next) : o.wpIn (FW ro) 0 P a w next Q := by
  have hx := compOp_some h
  cases hc : isCall (compOp P o) with
  | true => exact sound_callOp hN hcl hx hc he hw h hn
  | false =>
    rw [stepC_plain hc] at h
    exact plain_wp (not_defer hx hc) (sound_of hx) he hw h hn

theorem compL_cons (x : AOp) (hx : ∀ f as, x.op ≠ .defer f as) (r : List AOp) (cl : Cl) (t : T) (S : AS) (k : KL) : runL (compL (x :: r)) cl t S k =
    wantC x.guard t fun b => ifB b (stepC x.op cl t S fun v S => runL (compL r) cl (putT x.dst v t) S k) (runL (compL r) cl (putT x.dst (.tup []) t) S k) := by
  obtain ⟨dst, op, guard⟩ := x
  have e1 : ∀ d, isCall op = true → compL ({ dst := d, op, guard := none } :: r) = .gen { dst := d, op, guard := none } (compL r) := fun d hc => by
    cases d <;> cases op <;> first | rfl | (cases hc; done) | exact absurd rfl (hx _ _)
  have e2 : ∀ p, isCall op = false → compL ({ dst := some p, op, guard := none } :: r) = .op p op (compL r) := fun p hc => by
    cases op <;> first | rfl | (cases hc; done)
  have e3 : ∀ g, compL ({ dst, op, guard := some g } :: r) = .gen { dst, op, guard := some g } (compL r) := fun g => by
    cases op <;> first | (cases dst <;> rfl) | exact absurd rfl (hx _ _)
  have e4 : compL ({ dst := none, op, guard := none } :: r) = .gen { dst := none, op, guard := none } (compL r) := by
    cases op <;> first | rfl | exact absurd rfl (hx _ _)
  cases guard with
  | some g => rw [e3]; exact lGen_eq _ (compL r) _ _ _ _ _
  | none =>
    cases dst with
    | none => rw [e4]; exact lGen_eq _ (compL r) _ _ _ _ _
    | some p =>
      cases hc : isCall op with
      | true => rw [e1 _ hc]; exact lGen_eq _ (compL r) _ _ _ _ _
      | false =>
        rw [e2 _ hc]
        refine (lOp_eq _ _ (compL r) _ _ _ _ _).trans ?_
        show opK op t S (fun v S => runL (compL r) cl (T.setP v p t) S k) = stepC op cl t S fun v S => runL (compL r) cl (putT (some p) v t) S k
        rw [stepC_plain hc]
        rfl
theorem compL_dfr (dst : Option (List D4)) (f : AR) (as : List AR) (guard : Option (Option (List D4) × Bool)) (r : List AOp) (cl : Cl) (t : T) (S : AS) (k : KL) : runL (compL ({ dst, op := .defer f as, guard } :: r)) cl t S k =
    wantC guard t fun b => ifB b (onFn (ev f t) fun g a b => runL (compL r) cl ((putT dst (.tup []) t).push (.fn g (List.append a (List.append (evs as t) b)) [])) S k) (runL (compL r) cl (putT dst (.tup []) t) S k) := rfl
/-- A call put off. -/
theorem defer_wp {f : Operand} {args : Array Operand} {ats : Array TypeId} {next : Act → World → Prop} {Q : Exit → Act → World → Prop} (ho : o.op = .defer { callee := .value f, args, argTypes := ats }) {g : FuncId} {fi ca : List Value} (hf : a.eval f = .func (.func g) fi.toArray ca.toArray)
    (hn : next ({ a with defers := { target := .fn (.func g) ca.toArray, args := fi.toArray ++ args.map a.eval } :: a.defers }.put o.dst undef) w) : o.wpIn (FW none) 0 P a w next Q := by
  unfold Oper.wpIn
  refine ⟨fun _ _ => trivial, ?_⟩
  have : (o.semAt (FW none).round a.eval).run P w = .ok (.defer { target := .fn (.func g) ca.toArray, args := fi.toArray ++ args.map a.eval }) w := by
    show (execOp a.eval o).run P w = _
    simp [execOp, ho, resolve, hf, Deferred.ofValue]
  rw [this]
  exact hn

/-- What a region's end must meet. -/
def Ends (base : World) (ρ : Rho) (S : AS) (k : KL) (z : AV × Option AS) (N : Nat) (q : Act → World → Prop) : Prop :=
  ∀ t' S' ρ' a' w', k t' S' = some z → ρ.le ρ' → Keep ρ ρ' S S' → RelA base ρ' S' w' t' a' N → q a' w'
theorem Ends.step {k : KL} {N : Nat} {q : Act → World → Prop} (h : Ends base ρ S k z N q) {ρ' : Rho} {S' : AS} (hl : ρ.le ρ') (hk : Keep ρ ρ' S S') : Ends base ρ' S' k z N q :=
  fun t' S'' ρ'' a' w' h1 h2 h3 h4 => h t' S'' ρ'' a' w' h1 (Rho.le_trans hl h2) (hk.trans h3) h4

theorem dstsOk_at {n : Nat} {ops : Array Oper} (h : dstsOk n ops = true) {i : Nat} {o : Oper} (ho : ops[i]? = some o) : ∀ d, o.dst = some d → d < n := by
  intro d hd
  have := List.all_eq_true.1 h o (by
    have : o ∈ ops := Array.mem_of_getElem? ho
    simpa using this)
  rw [hd] at this
  exact ble_true this

theorem off_push (v : AV) (t : T) : (t.push v).off = v :: t.off := rfl
theorem TRel.push (h : TRel ρ t a) (v : AV) : TRel ρ (t.push v) a := fun n => by rw [evTmp_push]; exact h n
theorem plain_region {cl : Cl} {Q : Exit → Act → World → Prop} {ops : Array Oper} {N : Nat} {k : KL} {ro : Option Nat} (hN : NamesOk P) (hcl : ClOK P cl) (hd : dstsOk N ops = true) (hro : ro = none ∨ noDefer ops = true) :
    ∀ (l : List Oper) (i : Nat) (ρ : Rho) (S : AS) (w : World) (t : T) (a : Act), ops.toList.drop i = l → RelA base ρ S w t a N → runL (compL (l.map (compOper P ops))) cl t S k = some z → Ends base ρ S k z N (Q .normal) →
      wpOpsIn (FW ro) 0 P ops Q (List.range' i l.length) a w
  | [], i, ρ, S, w, t, a, hl, hr, h, hq => hq t S ρ a w h ρ.le_refl (.refl ρ S) hr
  | o :: l, i, ρ, S, w, t, a, hl, hr, h, hq => by
    have ho : ops[i]? = some o := by
      have : (ops.toList.drop i)[0]? = some o := by rw [hl]; rfl
      rw [List.getElem?_drop] at this
      simpa using this
    have hl' : ops.toList.drop (i + 1) = l := by rw [← List.drop_drop, hl]; rfl
    have hput : ∀ {ρ' : Rho} {v : AV} {u : Value}, TRel ρ' t a → Den ρ' v u → TRel ρ' (putT (o.dst.map pathOf) v t) (a.put o.dst u) := fun ht hv => putT_rel ht hv _ (fun n hn => by rw [hr.size]; exact dstsOk_at hd ho n hn)
    show wpOpsIn (FW ro) 0 P ops Q (i :: List.range' (i + 1) l.length) a w
    cases hdf : compOp P o with
    | defer f as =>
      rw [List.map_cons] at h
      have e1 : compOper P ops o = { dst := o.dst.map pathOf, op := .defer f as, guard := (compOper P ops o).guard } := by rw [← hdf]; rfl
      rw [e1, compL_dfr, compOper_guard] at h
      have h := wantC_some (o := o) (ops := ops) (a := a) rfl (fun n _ => hr.tmps n) h
      have hx : compOp? P o = some (.defer f as) := by
        unfold compOp at hdf
        cases hc : compOp? P o with
        | none => rw [hc] at hdf; cases hdf
        | some x => rw [hc] at hdf; exact congrArg some hdf
      have hsrc : ∃ f' args ats, o.op = .defer { callee := .value f', args, argTypes := ats } ∧ ofOperand f' = some f ∧ ofOperands args.toList = some as := by
        obtain ⟨dst, op, type, pos, after, guard⟩ := o
        have hcl : isCall (AO.defer f as) = true := rfl
        cases op with
        | defer cc =>
          obtain ⟨callee, args, ats⟩ := cc
          cases callee with
          | value f' =>
            obtain ⟨x', h1, h2⟩ := bind_some (show (ofOperand f').bind (fun f => (ofOperands args.toList).map fun a => AO.defer f a) = some (.defer f as) from hx)
            obtain ⟨y', h3, h4⟩ := map_some h2
            cases h4
            exact ⟨f', args, ats, rfl, h1, h3⟩
          | _ => cases hx
        | call cc =>
          exfalso
          obtain ⟨callee, args, ats⟩ := cc
          cases callee with
          | builtin b =>
            rcases sound_call hx with ⟨h1, _⟩ | ⟨_, h1, _⟩ | ⟨_, _, h1, _⟩
            · exact absurd ((isCall_class hcl).1.symm.trans h1) (by simp)
            · exact absurd ((isCall_class hcl).2.symm.trans h1) (by simp)
            · exact h1 hcl
          | value f' =>
            cases f' with
            | func g => obtain ⟨_, _, h⟩ := map_some (show (ofOperands args.toList).map (fun a => AO.call g a) = some (.defer f as) from hx); cases h
            | tmp q =>
              obtain ⟨_, _, h⟩ := bind_some (show (ofOperand (.tmp q)).bind (fun f => (ofOperands args.toList).map fun a => AO.dyn f a) = some (.defer f as) from hx)
              obtain ⟨_, _, h⟩ := map_some h
              cases h
            | const q =>
              obtain ⟨_, _, h⟩ := bind_some (show (ofOperand (.const q)).bind (fun f => (ofOperands args.toList).map fun a => AO.dyn f a) = some (.defer f as) from hx)
              obtain ⟨_, _, h⟩ := map_some h
              cases h
            | global q =>
              obtain ⟨_, h, _⟩ := bind_some (show (ofOperand (.global q)).bind (fun f => (ofOperands args.toList).map fun a => AO.dyn f a) = some (.defer f as) from hx)
              cases h
          | invoke rx name =>
            obtain ⟨_, _, h⟩ := bind_some (show (ofOperand rx).bind (fun x => (ofOperands args.toList).map fun a => AO.invoke x (methFn P name) a) = some (.defer f as) from hx)
            obtain ⟨_, _, h⟩ := map_some h
            cases h
        | next x s =>
          exfalso
          cases s with
          | true => cases hx
          | false => obtain ⟨_, _, h⟩ := map_some (show (ofOperand x).map AO.mnext = some (.defer f as) from hx); cases h
        | _ =>
          exfalso
          rcases sound_of hx with ⟨h1, _⟩ | ⟨_, h1, _⟩ | ⟨_, _, h1, _⟩
          · exact absurd ((isCall_class hcl).1.symm.trans h1) (by simp)
          · exact absurd ((isCall_class hcl).2.symm.trans h1) (by simp)
          · exact h1 hcl
      obtain ⟨f', args, ats, hop, hf, has⟩ := hsrc
      have hro' : ro = none := hro.resolve_right fun hnd => by
        have := List.all_eq_true.1 hnd o (by have : o ∈ ops := Array.mem_of_getElem? ho; simpa using this)
        rw [hop] at this
        cases this
      subst hro'
      cases hw : Region.wanted o (yielded ops a.tmps) with
      | true =>
        rw [hw] at h
        obtain ⟨g, fi, ca, hv, h⟩ := onFn_some (show onFn (ev f t) _ = some z from h)
        unfold wpOpsIn
        rw [ho]
        simp only [hw, if_true]
        have hdn := hr.tmps.ev f' f hf
        rw [hv] at hdn
        generalize hef : a.eval f' = vf at hdn
        cases hdn with
        | @fn _ _ _ fi' ca' h1 h2 =>
          refine defer_wp hop hef ?_
          refine plain_region hN hcl hd hro l (i + 1) ρ S w _ _ hl' ⟨hr.world, (show TRel ρ (putT (o.dst.map pathOf) (.tup []) t) _ from ?_).push _, ?_, ?_⟩ h hq
          · have := hput hr.tmps (.tup .nil : Den ρ (.tup []) undef)
            intro n
            have := this n
            cases hdst : o.dst with
            | none => rw [hdst] at this; exact this
            | some d => rw [hdst] at this; exact this
          · rw [off_push, off_putT, put_defers]
            refine .fn (h1.append ((evs_rel has hr.tmps.ev).append h2)) ?_ hr.defers
            apply Array.toList_inj.1
            simp
          · rw [put_size]; exact hr.size
      | false =>
        rw [hw] at h
        have h : runL (compL (l.map (compOper P ops))) cl (putT (o.dst.map pathOf) (.tup []) t) S k = some z := h
        unfold wpOpsIn
        rw [ho]
        simp only [hw, if_false, Bool.false_eq_true]
        exact ⟨fun _ _ => trivial, plain_region hN hcl hd hro l (i + 1) ρ S w _ _ hl' ⟨hr.world, hput hr.tmps (.tup .nil), by rw [put_defers, off_putT]; exact hr.defers, by rw [put_size]; exact hr.size⟩ h hq⟩
    | _ =>
      rw [List.map_cons, compL_cons _ (fun f as e => by have e : compOp P o = .defer f as := e; rw [hdf] at e; cases e), compOper_guard] at h
      have h := wantC_some (o := o) (ops := ops) (a := a) rfl (fun n _ => hr.tmps n) h
      cases hw : Region.wanted o (yielded ops a.tmps) with
      | true =>
        rw [hw] at h
        have h : stepC (compOp P o) cl t S (fun v S => runL (compL (l.map (compOper P ops))) cl (putT (o.dst.map pathOf) v t) S k) = some z := h
        unfold wpOpsIn
        rw [ho]
        simp only [hw, if_true]
        refine gen_wp hN hcl hr.tmps.ev hr.world h fun v S' ρ' w' u h1 h2 h3 h4 h5 => ?_
        exact plain_region hN hcl hd hro l (i + 1) ρ' S' w' _ _ hl' ⟨h4, hput (hr.tmps.mono h2) h5, by rw [put_defers, off_putT]; exact hr.defers.mono h2, by rw [put_size]; exact hr.size⟩ h1 (hq.step h2 h3)
      | false =>
        rw [hw] at h
        have h : runL (compL (l.map (compOper P ops))) cl (putT (o.dst.map pathOf) (.tup []) t) S k = some z := h
        unfold wpOpsIn
        rw [ho]
        simp only [hw, if_false, Bool.false_eq_true]
        exact ⟨fun _ _ => trivial, plain_region hN hcl hd hro l (i + 1) ρ S w _ _ hl' ⟨hr.world, hput hr.tmps (.tup .nil), by rw [put_defers, off_putT]; exact hr.defers, by rw [put_size]; exact hr.size⟩ h hq⟩
end Go.Proofs.YtpochibfjpanhaaGreat.Exe
