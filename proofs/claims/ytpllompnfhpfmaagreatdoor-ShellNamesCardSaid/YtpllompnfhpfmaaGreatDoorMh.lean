/- A part of the machine that reckons a closed run, and of the proof that what it says the given program does. No conditions. -/
import Derived.Test.YtpllompnfhpfmaaGreatDoorMg
set_option linter.unusedVariables false
set_option linter.unusedSimpArgs false
namespace Go.Proofs.YtpllompnfhpfmaaGreatDoor.Exe
open Go
variable {Lg : Laid} {base : Base Lg} {w : World} {P : Program} {ρ : Rho} {S : AS} {t : T} {o : Oper} {c : K} {z : AV × Option AS} {a : Act}

def NamesOk (P : Program) : Prop := ∀ (g : FuncId) (fn : Func), P.funcs[g]? = some fn → (fn.name == "runtime.NumGoroutine") = false

theorem stepC_none {cl : Cl} : stepC AO.none cl t S c = none := rfl
theorem compOp_some {cl : Cl} (h : stepC (compOp P o) cl t S c = some z) : compOp? P o = some (compOp P o) := by
  unfold compOp at h ⊢
  cases hc : compOp? P o with
  | none => rw [hc] at h; cases h
  | some x => rfl

theorem not_defer {x : AO} (hx : compOp? P o = some x) (hc : isCall x = false) : ∀ c, o.op ≠ .defer c := fun c e => by
  obtain ⟨dst, op, type, pos, after, guard⟩ := o
  subst e
  obtain ⟨callee, args, ats⟩ := c
  cases callee with
  | value f =>
    obtain ⟨x', _, h1⟩ := bind_some (show (ofOperand f).bind (fun f => (ofOperands args.toList).map fun a => AO.defer f a) = some x from hx)
    obtain ⟨_, _, rfl⟩ := map_some h1
    cases hc
  | _ => cases hx
theorem value_wp {next : Act → World → Prop} {Q : Exit → Act → World → Prop} {ro : Option Nat} {u : Value} {w' : World} (hd : ∀ c, o.op ≠ .defer c) (hr : (execOp a.eval o).run P w = .ok (.value u) w') (hn : next (a.put o.dst u) w') : o.wpIn (FW ro) 0 P a w next Q := by
  unfold Oper.wpIn
  refine ⟨fun _ _ => trivial, ?_⟩
  rw [Oper.semAt_eq _ _ _ hd, hr]
  exact hn
theorem class_call {x : AO} (h : isVal x = true ∨ isMk x = true) : isCall x = false := by
  cases hc : isCall x with
  | false => rfl
  | true =>
    obtain ⟨h1, h2⟩ := isCall_class hc
    rcases h with h | h
    · rw [h1] at h; cases h
    · rw [h2] at h; cases h
theorem gen_wp {cl : Cl} {next : Act → World → Prop} {Q : Exit → Act → World → Prop} {ro : Option Nat} (hN : NamesOk P) (hcl : ClOK Lg P cl) (he : EvRel ρ t a.eval) (hw : WRel base ρ S w)
    (h : stepC (compOp P o) cl t S c = some z) (hn : Goes base ρ S o a c z next) : o.wpIn (FW ro) 0 P a w next Q := by
  have hx := compOp_some h
  cases hc : isCall (compOp P o) with
  | true => exact sound_callOp hN hcl hx hc he hw h hn
  | false =>
    rw [stepC_plain hc] at h
    exact plain_wp (not_defer hx hc) (sound_of (Lg := Lg) hx) he hw h hn

theorem compL_cons (x : AOp) (hx : ∀ f as, x.op ≠ .defer f as) (r : List AOp) (cl : Cl) (t : T) (S : AS) (k : KL) : runL (compL (x :: r)) cl t S k =
    wantC x.guard t fun b => ifB b (stepC x.op cl t S fun v S => runL (compL r) cl (putT x.dst v t) S k) (runL (compL r) cl (putT x.dst (.tup []) t) S k) := by
  obtain ⟨dst, op, guard⟩ := x
  have e1 : ∀ d, isCall op = true → compL ({ dst := d, op, guard := none } :: r) = .gen { dst := d, op, guard := none } (compL r) := fun d hc => by
    cases d <;> cases op <;> first | rfl | (cases hc; done) | exact absurd rfl (hx _ _)
  have e2 : ∀ p, isCall op = false → compL ({ dst := some p, op, guard := none } :: r) = .op p op (compL r) := fun p hc => by
    cases op <;> first | rfl | (cases hc; done)
  have e3 : ∀ g, compL ({ dst, op, guard := some g } :: r) = .gen { dst, op, guard := some g } (compL r) := fun g => by
    cases op <;> first | (cases dst <;> rfl) | exact absurd rfl (hx _ _)
  have e4 : compL ({ dst := none, op, guard := none } :: r) = .gen { dst := none, op, guard := none } (compL r) := by
    cases op <;> first | rfl | exact absurd rfl (hx _ _)
  cases guard with
  | some g => rw [e3]; exact lGen_eq _ (compL r) _ _ _ _ _
  | none =>
    cases dst with
    | none => rw [e4]; exact lGen_eq _ (compL r) _ _ _ _ _
    | some p =>
      cases hc : isCall op with
      | true => rw [e1 _ hc]; exact lGen_eq _ (compL r) _ _ _ _ _
      | false =>
        rw [e2 _ hc]
        refine (lOp_eq _ _ (compL r) _ _ _ _ _).trans ?_
        show opK op t S (fun v S => runL (compL r) cl (T.setP v p t) S k) = stepC op cl t S fun v S => runL (compL r) cl (putT (some p) v t) S k
        rw [stepC_plain hc]
        rfl
theorem compL_dfr (dst : Option (List D4)) (f : AR) (as : List AR) (guard : Option (Option (List D4) × Bool)) (r : List AOp) (cl : Cl) (t : T) (S : AS) (k : KL) : runL (compL ({ dst, op := .defer f as, guard } :: r)) cl t S k =
    wantC guard t fun b => ifB b (onFn (ev f t) fun g a b => runL (compL r) cl ((putT dst (.tup []) t).push (.fn g (List.append a (List.append (evs as t) b)) [])) S k) (runL (compL r) cl (putT dst (.tup []) t) S k) := rfl
/-- A call put off. -/
theorem defer_wp {f : Operand} {args : Array Operand} {ats : Array TypeId} {next : Act → World → Prop} {Q : Exit → Act → World → Prop} (ho : o.op = .defer { callee := .value f, args, argTypes := ats }) {g : FuncId} {fi ca : List Value} (hf : a.eval f = .func (.func g) fi.toArray ca.toArray)
    (hn : next ({ a with defers := { target := .fn (.func g) ca.toArray, args := fi.toArray ++ args.map a.eval } :: a.defers }.put o.dst undef) w) : o.wpIn (FW none) 0 P a w next Q := by
  unfold Oper.wpIn
  refine ⟨fun _ _ => trivial, ?_⟩
  have : (o.semAt (FW none).round a.eval).run P w = .ok (.defer { target := .fn (.func g) ca.toArray, args := fi.toArray ++ args.map a.eval }) w := by
    show (execOp a.eval o).run P w = _
    simp [execOp, ho, resolve, hf, Deferred.ofValue]
  rw [this]
  exact hn

/-- What a region's end must meet. -/
def Ends {Lg : Laid} (base : Base Lg) (ρ : Rho) (S : AS) (k : KL) (z : AV × Option AS) (N : Nat) (q : Act → World → Prop) : Prop :=
  ∀ t' S' ρ' a' w', k t' S' = some z → ρ.le ρ' → Keep ρ ρ' S S' → RelA base ρ' S' w' t' a' N → q a' w'
theorem Ends.step {k : KL} {N : Nat} {q : Act → World → Prop} (h : Ends base ρ S k z N q) {ρ' : Rho} {S' : AS} (hl : ρ.le ρ') (hk : Keep ρ ρ' S S') : Ends base ρ' S' k z N q :=
  fun t' S'' ρ'' a' w' h1 h2 h3 h4 => h t' S'' ρ'' a' w' h1 (Rho.le_trans hl h2) (hk.trans h3) h4

theorem dstsOk_at {n : Nat} {ops : Array Oper} (h : dstsOk n ops = true) {i : Nat} {o : Oper} (ho : ops[i]? = some o) : ∀ d, o.dst = some d → d < n := by
  intro d hd
  have := List.all_eq_true.1 h o (by
    have : o ∈ ops := Array.mem_of_getElem? ho
    simpa using this)
  rw [hd] at this
  exact ble_true this

theorem off_push (v : AV) (t : T) : (t.push v).off = v :: t.off := rfl
theorem TRel.push (h : TRel ρ t a) (v : AV) : TRel ρ (t.push v) a := fun n => by rw [evTmp_push]; exact h n
theorem plain_region {cl : Cl} {Q : Exit → Act → World → Prop} {ops : Array Oper} {N : Nat} {k : KL} {ro : Option Nat} (hN : NamesOk P) (hcl : ClOK Lg P cl) (hd : dstsOk N ops = true) (hro : ro = none ∨ noDefer ops = true) :
    ∀ (l : List Oper) (i : Nat) (ρ : Rho) (S : AS) (w : World) (t : T) (a : Act), ops.toList.drop i = l → RelA base ρ S w t a N → runL (compL (l.map (compOper P ops))) cl t S k = some z → Ends base ρ S k z N (Q .normal) →
      wpOpsIn (FW ro) 0 P ops Q (List.range' i l.length) a w
  | [], i, ρ, S, w, t, a, hl, hr, h, hq => hq t S ρ a w h ρ.le_refl (.refl ρ S) hr
  | o :: l, i, ρ, S, w, t, a, hl, hr, h, hq => by
    have ho : ops[i]? = some o := by
      have : (ops.toList.drop i)[0]? = some o := by rw [hl]; rfl
      rw [List.getElem?_drop] at this
      simpa using this
    have hl' : ops.toList.drop (i + 1) = l := by rw [← List.drop_drop, hl]; rfl
    have hput : ∀ {ρ' : Rho} {v : AV} {u : Value}, TRel ρ' t a → Den ρ' v u → TRel ρ' (putT (o.dst.map pathOf) v t) (a.put o.dst u) := fun ht hv => putT_rel ht hv _ (fun n hn => by rw [hr.size]; exact dstsOk_at hd ho n hn)
    show wpOpsIn (FW ro) 0 P ops Q (i :: List.range' (i + 1) l.length) a w
    cases hdf : compOp P o with
    | defer f as =>
      rw [List.map_cons] at h
      have e1 : compOper P ops o = { dst := o.dst.map pathOf, op := .defer f as, guard := (compOper P ops o).guard } := by rw [← hdf]; rfl
      rw [e1, compL_dfr, compOper_guard] at h
      have h := wantC_some (o := o) (ops := ops) (a := a) rfl (fun n _ => hr.tmps n) h
      have hx : compOp? P o = some (.defer f as) := by
        unfold compOp at hdf
        cases hc : compOp? P o with
        | none => rw [hc] at hdf; cases hdf
        | some x => rw [hc] at hdf; exact congrArg some hdf
      have hsrc : ∃ f' args ats, o.op = .defer { callee := .value f', args, argTypes := ats } ∧ ofOperand f' = some f ∧ ofOperands args.toList = some as := by
        obtain ⟨dst, op, type, pos, after, guard⟩ := o
        have hcl : isCall (AO.defer f as) = true := rfl
        cases op with
        | defer cc =>
          obtain ⟨callee, args, ats⟩ := cc
          cases callee with
          | value f' =>
            obtain ⟨x', h1, h2⟩ := bind_some (show (ofOperand f').bind (fun f => (ofOperands args.toList).map fun a => AO.defer f a) = some (.defer f as) from hx)
            obtain ⟨y', h3, h4⟩ := map_some h2
            cases h4
            exact ⟨f', args, ats, rfl, h1, h3⟩
          | _ => cases hx
        | call cc =>
          exfalso
          obtain ⟨callee, args, ats⟩ := cc
          cases callee with
          | builtin b =>
            rcases sound_call (Lg := Lg) hx with ⟨h1, _⟩ | ⟨_, h1, _⟩ | ⟨_, _, h1, _⟩
            · exact absurd ((isCall_class hcl).1.symm.trans h1) (by simp)
            · exact absurd ((isCall_class hcl).2.symm.trans h1) (by simp)
            · exact h1 hcl
          | value f' =>
            cases f' with
            | func g => obtain ⟨_, _, h⟩ := map_some (show (ofOperands args.toList).map (fun a => AO.call g a) = some (.defer f as) from hx); cases h
            | tmp q =>
              obtain ⟨_, _, h⟩ := bind_some (show (ofOperand (.tmp q)).bind (fun f => (ofOperands args.toList).map fun a => AO.dyn f a) = some (.defer f as) from hx)
              obtain ⟨_, _, h⟩ := map_some h
              cases h
            | const q =>
              obtain ⟨_, _, h⟩ := bind_some (show (ofOperand (.const q)).bind (fun f => (ofOperands args.toList).map fun a => AO.dyn f a) = some (.defer f as) from hx)
              obtain ⟨_, _, h⟩ := map_some h
              cases h
            | global q =>
              obtain ⟨_, h, _⟩ := bind_some (show (ofOperand (.global q)).bind (fun f => (ofOperands args.toList).map fun a => AO.dyn f a) = some (.defer f as) from hx)
              cases h
          | invoke rx name =>
            obtain ⟨_, _, h⟩ := bind_some (show (ofOperand rx).bind (fun x => (ofOperands args.toList).map fun a => AO.invoke x (methFn P name) a) = some (.defer f as) from hx)
            obtain ⟨_, _, h⟩ := map_some h
            cases h
        | next x s =>
          exfalso
          cases s with
          | true => cases hx
          | false => obtain ⟨_, _, h⟩ := map_some (show (ofOperand x).map AO.mnext = some (.defer f as) from hx); cases h
        | _ =>
          exfalso
          rcases sound_of (Lg := Lg) hx with ⟨h1, _⟩ | ⟨_, h1, _⟩ | ⟨_, _, h1, _⟩
          · exact absurd ((isCall_class hcl).1.symm.trans h1) (by simp)
          · exact absurd ((isCall_class hcl).2.symm.trans h1) (by simp)
          · exact h1 hcl
      obtain ⟨f', args, ats, hop, hf, has⟩ := hsrc
      have hro' : ro = none := hro.resolve_right fun hnd => by
        have := List.all_eq_true.1 hnd o (by have : o ∈ ops := Array.mem_of_getElem? ho; simpa using this)
        rw [hop] at this
        cases this
      subst hro'
      cases hw : Region.wanted o (yielded ops a.tmps) with
      | true =>
        rw [hw] at h
        obtain ⟨g, fi, ca, hv, h⟩ := onFn_some (show onFn (ev f t) _ = some z from h)
        unfold wpOpsIn
        rw [ho]
        simp only [hw, if_true]
        have hdn := hr.tmps.ev f' f hf
        rw [hv] at hdn
        generalize hef : a.eval f' = vf at hdn
        cases hdn with
        | @fn _ _ _ fi' ca' h1 h2 =>
          refine defer_wp hop hef ?_
          refine plain_region hN hcl hd hro l (i + 1) ρ S w _ _ hl' ⟨hr.world, (show TRel ρ (putT (o.dst.map pathOf) (.tup []) t) _ from ?_).push _, ?_, ?_⟩ h hq
          · have := hput hr.tmps (.tup .nil : Den ρ (.tup []) undef)
            intro n
            have := this n
            cases hdst : o.dst with
            | none => rw [hdst] at this; exact this
            | some d => rw [hdst] at this; exact this
          · rw [off_push, off_putT, put_defers]
            refine .fn (h1.append ((evs_rel has hr.tmps.ev).append h2)) ?_ hr.defers
            apply Array.toList_inj.1
            simp
          · rw [put_size]; exact hr.size
      | false =>
        rw [hw] at h
        have h : runL (compL (l.map (compOper P ops))) cl (putT (o.dst.map pathOf) (.tup []) t) S k = some z := h
        unfold wpOpsIn
        rw [ho]
        simp only [hw, if_false, Bool.false_eq_true]
        exact ⟨fun _ _ => trivial, plain_region hN hcl hd hro l (i + 1) ρ S w _ _ hl' ⟨hr.world, hput hr.tmps (.tup .nil), by rw [put_defers, off_putT]; exact hr.defers, by rw [put_size]; exact hr.size⟩ h hq⟩
    | _ =>
      rw [List.map_cons, compL_cons _ (fun f as e => by have e : compOp P o = .defer f as := e; rw [hdf] at e; cases e), compOper_guard] at h
      have h := wantC_some (o := o) (ops := ops) (a := a) rfl (fun n _ => hr.tmps n) h
      cases hw : Region.wanted o (yielded ops a.tmps) with
      | true =>
        rw [hw] at h
        have h : stepC (compOp P o) cl t S (fun v S => runL (compL (l.map (compOper P ops))) cl (putT (o.dst.map pathOf) v t) S k) = some z := h
        unfold wpOpsIn
        rw [ho]
        simp only [hw, if_true]
        refine gen_wp hN hcl hr.tmps.ev hr.world h fun v S' ρ' w' u h1 h2 h3 h4 h5 => ?_
        exact plain_region hN hcl hd hro l (i + 1) ρ' S' w' _ _ hl' ⟨h4, hput (hr.tmps.mono h2) h5, by rw [put_defers, off_putT]; exact hr.defers.mono h2, by rw [put_size]; exact hr.size⟩ h1 (hq.step h2 h3)
      | false =>
        rw [hw] at h
        have h : runL (compL (l.map (compOper P ops))) cl (putT (o.dst.map pathOf) (.tup []) t) S k = some z := h
        unfold wpOpsIn
        rw [ho]
        simp only [hw, if_false, Bool.false_eq_true]
        exact ⟨fun _ _ => trivial, plain_region hN hcl hd hro l (i + 1) ρ S w _ _ hl' ⟨hr.world, hput hr.tmps (.tup .nil), by rw [put_defers, off_putT]; exact hr.defers, by rw [put_size]; exact hr.size⟩ h hq⟩
end Go.Proofs.YtpllompnfhpfmaaGreatDoor.Exe
namespace Go.Proofs.YtpllompnfhpfmaaGreatDoor.Exe
open Go
variable {Lg : Laid} {base : Base Lg} {w : World} {P : Program} {ρ : Rho} {S : AS} {t : T} {o : Oper} {c : K} {z : AV × Option AS} {a : Act}

/-! ### Bits -/
theorem bitN_test (i j : Nat) : (bitN i).testBit j = decide (i = j) := by unfold bitN; exact Nat.testBit_two_pow
theorem or_test (a b j : Nat) : (a ||| b).testBit j = true ↔ a.testBit j = true ∨ b.testBit j = true := by rw [Nat.testBit_or, Bool.or_eq_true]
theorem orBit_test (a i j : Nat) : (a ||| bitN i).testBit j = true ↔ a.testBit j = true ∨ i = j := by rw [or_test, bitN_test, decide_eq_true_eq]
theorem subN_test {a b : Nat} (h : subN a b = true) {j : Nat} (hj : a.testBit j = true) : b.testBit j = true := by
  have h := beq_true h
  rw [← h, Nat.testBit_and, Bool.and_eq_true] at hj
  exact hj.2
theorem zero_test (j : Nat) : (0 : Nat).testBit j = false := Nat.zero_testBit j
theorem full_test {n j : Nat} (h : j < n) : (2 ^ n - 1).testBit j = true := by rw [Nat.testBit_two_pow_sub_one]; simpa using h

/-! ### Paths -/
theorem pathOf_unpath (p : List D4) : pathOf (unpath p) = p := unpath_inj (by
  show unpath (pathF (unpath p + 1) (unpath p)) = _
  exact unpath_pathF _ _ (by omega))

/-! ### What an operation reads is all that it hangs on -/
theorem evs_congr {t t' : T} : ∀ {l : List AR}, (∀ x ∈ l, ev x t = ev x t') → evs l t = evs l t'
  | [], _ => rfl
  | x :: l, h => by
    show ev x t :: evs l t = ev x t' :: evs l t'
    rw [h x (by simp), evs_congr (l := l) fun y hy => h y (by simp [hy])]
theorem partsK_congr {t t' : T} : ∀ {l : List (Nat × Nat × AR)}, (∀ x ∈ l.map (fun p => p.2.2), ev x t = ev x t') → partsK l t = partsK l t'
  | [], _ => rfl
  | p :: l, h => by
    show (p.1, p.2.1, ev p.2.2 t) :: partsK l t = (p.1, p.2.1, ev p.2.2 t') :: partsK l t'
    rw [h p.2.2 (by simp), partsK_congr (l := l) fun y hy => h y (by simp at hy ⊢; exact .inr hy)]
theorem evO_congr {t t' : T} {x : Option AR} (h : ∀ y ∈ optL x, ev y t = ev y t') : evO x t = evO x t' := by
  cases x with
  | none => rfl
  | some y => show some (ev y t) = some (ev y t'); rw [h y (by simp [optL])]

theorem opK_congr {t t' : T} (x : AO) (h : ∀ y ∈ x.args, ev y t = ev y t') (S : AS) (c : K) : opK x t S c = opK x t' S c := by
  cases x with
  | mv x => show kMv _ _ _ _ = kMv _ _ _ _; unfold kMv; rw [h x (by simp [AO.args])]
  | pick x y1 y2 => show kPick _ _ _ _ _ _ = kPick _ _ _ _ _ _; unfold kPick; rw [h x (by simp [AO.args]), h y1 (by simp [AO.args]), h y2 (by simp [AO.args])]
  | alloc => rfl
  | box e esz x => show kBox _ _ _ _ _ _ = kBox _ _ _ _ _ _; unfold kBox; rw [h x (by simp [AO.args])]
  | build zs ps => show kBuild _ _ _ _ _ = kBuild _ _ _ _ _; unfold kBuild; rw [partsK_congr (l := ps) (fun x hx => h x (by simpa [AO.args] using hx))]
  | buildSlice e esz n zs ps => show kBuildSlice _ _ _ _ _ _ _ _ = kBuildSlice _ _ _ _ _ _ _ _; unfold kBuildSlice; rw [partsK_congr (l := ps) (fun x hx => h x (by simpa [AO.args] using hx))]
  | load g n x => show kLoad _ _ _ _ _ _ = kLoad _ _ _ _ _ _; unfold kLoad; rw [h x (by simp [AO.args])]
  | store n x y => show kStore _ _ _ _ _ _ = kStore _ _ _ _ _ _; unfold kStore; rw [h x (by simp [AO.args]), h y (by simp [AO.args])]
  | nilCheck x => show kNilCheck _ _ _ _ = kNilCheck _ _ _ _; unfold kNilCheck; rw [h x (by simp [AO.args])]
  | bin op x y => show kBin _ _ _ _ _ _ = kBin _ _ _ _ _ _; unfold kBin; rw [h x (by simp [AO.args]), h y (by simp [AO.args])]
  | eqPlain n l x y => show kEqPlain _ _ _ _ _ _ _ = kEqPlain _ _ _ _ _ _ _; unfold kEqPlain; rw [h x (by simp [AO.args]), h y (by simp [AO.args])]
  | un op x => show kUn _ _ _ _ _ = kUn _ _ _ _ _; unfold kUn; rw [h x (by simp [AO.args])]
  | toInt k x => show kToInt _ _ _ _ _ = kToInt _ _ _ _ _; unfold kToInt; rw [h x (by simp [AO.args])]
  | toBytes e x => show kToBytes _ _ _ _ _ = kToBytes _ _ _ _ _; unfold kToBytes; rw [h x (by simp [AO.args])]
  | toStr x => show kToStr _ _ _ _ = kToStr _ _ _ _; unfold kToStr; rw [h x (by simp [AO.args])]
  | mark x => show kMark _ _ _ _ = kMark _ _ _ _; unfold kMark; rw [h x (by simp [AO.args])]
  | fieldAddr n x => show kFieldAddr _ _ _ _ _ = kFieldAddr _ _ _ _ _; unfold kFieldAddr; rw [h x (by simp [AO.args])]
  | atArray l e x y => show kAtArray _ _ _ _ _ _ _ = kAtArray _ _ _ _ _ _ _; unfold kAtArray; rw [h x (by simp [AO.args]), h y (by simp [AO.args])]
  | atSlice e x y => show kAtSlice _ _ _ _ _ _ = kAtSlice _ _ _ _ _ _; unfold kAtSlice; rw [h x (by simp [AO.args]), h y (by simp [AO.args])]
  | ixArray l e g x y => show kIxArray _ _ _ _ _ _ _ _ = kIxArray _ _ _ _ _ _ _ _; unfold kIxArray; rw [h x (by simp [AO.args]), h y (by simp [AO.args])]
  | ixString x y => show kIxString _ _ _ _ _ = kIxString _ _ _ _ _; unfold kIxString; rw [h x (by simp [AO.args]), h y (by simp [AO.args])]
  | field g o n x => show kField _ _ _ _ _ _ _ = kField _ _ _ _ _ _ _; unfold kField; rw [h x (by simp [AO.args])]
  | lenConst n => rfl
  | lenOf k x => show kLenOf _ _ _ _ _ = kLenOf _ _ _ _ _; unfold kLenOf kLenAny; rw [h x (by simp [AO.args])]
  | sliceSlice e x lo hi mx =>
    show kSliceSlice _ _ _ _ _ _ _ _ = kSliceSlice _ _ _ _ _ _ _ _; unfold kSliceSlice
    rw [h x (by simp [AO.args]), evO_congr (x := lo) (fun y hy => h y (by simp [AO.args, hy])), evO_congr (x := hi) (fun y hy => h y (by simp [AO.args, hy])), evO_congr (x := mx) (fun y hy => h y (by simp [AO.args, hy]))]
  | sliceArray n e x lo hi mx =>
    show kSliceArray _ _ _ _ _ _ _ _ _ = kSliceArray _ _ _ _ _ _ _ _ _; unfold kSliceArray
    rw [h x (by simp [AO.args]), evO_congr (x := lo) (fun y hy => h y (by simp [AO.args, hy])), evO_congr (x := hi) (fun y hy => h y (by simp [AO.args, hy])), evO_congr (x := mx) (fun y hy => h y (by simp [AO.args, hy]))]
  | sliceString x lo hi =>
    show kSliceString _ _ _ _ _ _ = kSliceString _ _ _ _ _ _; unfold kSliceString
    rw [h x (by simp [AO.args]), evO_congr (x := lo) (fun y hy => h y (by simp [AO.args, hy])), evO_congr (x := hi) (fun y hy => h y (by simp [AO.args, hy]))]
  | s2ap n x => show kS2ap _ _ _ _ _ = kS2ap _ _ _ _ _; unfold kS2ap; rw [h x (by simp [AO.args])]
  | extract x i => show kExtract _ _ _ _ _ = kExtract _ _ _ _ _; unfold kExtract; rw [h x (by simp [AO.args])]
  | call => rfl
  | dyn => rfl
  | defer => rfl
  | invoke => rfl
  | append e esz b x y => show kAppend _ _ _ _ _ _ _ _ = kAppend _ _ _ _ _ _ _ _; unfold kAppend; rw [h x (by simp [AO.args]), h y (by simp [AO.args])]
  | minmax m l => show kMinmax _ _ _ _ _ = kMinmax _ _ _ _ _; unfold kMinmax; rw [evs_congr (l := l) (fun y hy => h y (by simpa [AO.args] using hy))]
  | mapUpdate s m k v => show kMapUpdate _ _ _ _ _ _ _ = kMapUpdate _ _ _ _ _ _ _; unfold kMapUpdate; rw [h m (by simp [AO.args]), h k (by simp [AO.args]), h v (by simp [AO.args])]
  | lookup s z m k ok => show kLookup _ _ _ _ _ _ _ _ = kLookup _ _ _ _ _ _ _ _; unfold kLookup; rw [h m (by simp [AO.args]), h k (by simp [AO.args])]
  | makeMap => rfl
  | makeSlice e esz b z x y => show kMakeSlice _ _ _ _ _ _ _ _ _ = kMakeSlice _ _ _ _ _ _ _ _ _; unfold kMakeSlice; rw [h x (by simp [AO.args]), h y (by simp [AO.args])]
  | makeFunc f l m => show kMakeFunc _ _ _ _ _ _ = kMakeFunc _ _ _ _ _ _; unfold kMakeFunc; rw [evs_congr (l := l) (fun y hy => h y (by simp [AO.args, hy])), evs_congr (l := m) (fun y hy => h y (by simp [AO.args, hy]))]
  | delete s m k => show kDelete _ _ _ _ _ _ = kDelete _ _ _ _ _ _; unfold kDelete; rw [h m (by simp [AO.args]), h k (by simp [AO.args])]
  | clear e z x => show kClear _ _ _ _ _ _ = kClear _ _ _ _ _ _; unfold kClear; rw [h x (by simp [AO.args])]
  | copy e x y => show kCopy _ _ _ _ _ _ = kCopy _ _ _ _ _ _; unfold kCopy; rw [h x (by simp [AO.args]), h y (by simp [AO.args])]
  | makeIface ty x => show kMakeIface _ _ _ _ _ = kMakeIface _ _ _ _ _; unfold kMakeIface; rw [h x (by simp [AO.args])]
  | eqNil k n x y => show kEqNil _ _ _ _ _ _ _ = kEqNil _ _ _ _ _ _ _; unfold kEqNil; rw [h x (by simp [AO.args]), h y (by simp [AO.args])]
  | strOp op x y => show kStrOp _ _ _ _ _ _ = kStrOp _ _ _ _ _ _; unfold kStrOp; rw [h x (by simp [AO.args]), h y (by simp [AO.args])]
  | mrange x => show kMRange _ _ _ _ = kMRange _ _ _ _; unfold kMRange; rw [h x (by simp [AO.args])]
  | mnext x => rfl
  | mentry x => show kMEntry _ _ _ _ = kMEntry _ _ _ _; unfold kMEntry; rw [h x (by simp [AO.args])]
  | tassert ty z ok x => show kTassert _ _ _ _ _ _ _ = kTassert _ _ _ _ _ _ _; unfold kTassert; rw [h x (by simp [AO.args])]
  | eqBool n x y => show kEqBool _ _ _ _ _ _ = kEqBool _ _ _ _ _ _; unfold kEqBool; rw [h x (by simp [AO.args]), h y (by simp [AO.args])]
  | none => rfl

theorem stepC_congr {t t' : T} {cl : Cl} (x : AO) (h : ∀ y ∈ x.args, ev y t = ev y t') (S : AS) (c : K) : stepC x cl t S c = stepC x cl t' S c := by
  cases hc : isCall x with
  | false => rw [stepC_plain hc, stepC_plain hc]; exact opK_congr x h S c
  | true =>
    cases x with
    | call f l => show cCall _ _ _ _ _ _ = cCall _ _ _ _ _ _; unfold cCall; rw [evs_congr (l := l) (fun y hy => h y (by simpa [AO.args] using hy))]
    | dyn f l => show cDyn _ _ _ _ _ _ = cDyn _ _ _ _ _ _; unfold cDyn; rw [h f (by simp [AO.args]), evs_congr (l := l) (fun y hy => h y (by simp [AO.args, hy]))]
    | defer f l => rfl
    | invoke f m l => show cInvoke _ _ _ _ _ _ _ = cInvoke _ _ _ _ _ _ _; unfold cInvoke; rw [h f (by simp [AO.args]), evs_congr (l := l) (fun y hy => h y (by simp [AO.args, hy]))]
    | mnext x => show cl .nx [ev x t] S c = cl .nx [ev x t'] S c; rw [h x (by simp [AO.args])]
    | _ => cases hc

/-- Two tables that agree on what an operation looks at. -/
def Agree (x : AOp) (t t' : T) : Prop := ∀ n ∈ looksA x, evTmp (pathOf n) t = evTmp (pathOf n) t'
theorem Agree.args {x : AOp} {t t' : T} (h : Agree x t t') : ∀ y ∈ x.op.args, ev y t = ev y t' := fun y hy => by
  cases y with
  | const v => rfl
  | tmp p =>
    have := h (unpath p) (List.mem_append_left _ (List.mem_flatMap.2 ⟨_, hy, by simp [arT]⟩))
    rw [pathOf_unpath] at this
    exact this
theorem Agree.want {x : AOp} {t t' : T} (h : Agree x t t') (k : Bool → R) : wantC x.guard t k = wantC x.guard t' k := by
  obtain ⟨dst, op, g⟩ := x
  cases g with
  | none => rfl
  | some q =>
    obtain ⟨d, b⟩ := q
    cases d with
    | none => rfl
    | some p =>
      have := h (unpath p) (List.mem_append_right _ (by simp))
      rw [pathOf_unpath] at this
      show wantV (evTmp p t) b k = wantV (evTmp p t') b k
      rw [this]

theorem wantC_cases {g : Option (Option (List D4) × Bool)} {k : Bool → R} (h : wantC g t k = some z) : ∃ b, k b = some z ∧ ∀ k', wantC g t k' = k' b := by
  cases g with
  | none => exact ⟨true, h, fun _ => rfl⟩
  | some q =>
    obtain ⟨d, b⟩ := q
    cases d with
    | none => exact ⟨false, h, fun _ => rfl⟩
    | some p =>
      have h : wantV (evTmp p t) b k = some z := h
      generalize hv : evTmp p t = v at h
      have key : ∀ k', wantC (some (some p, b)) t k' = wantV v b k' := fun k' => by show wantV (evTmp p t) b k' = _; rw [hv]
      cases v <;> first | (cases h; done) | skip
      · exact ⟨_, h, fun k' => key k'⟩
      · exact ⟨false, h, fun k' => key k'⟩

/-! ### The sameness of values -/
theorem toB_true {o : Option Bool} (h : toB o = true) : o = some true := by
  cases o with
  | none => cases h
  | some b => exact congrArg some h
theorem nilNo_1 {b : AV} (h : nilNo b = 1) : b = .pnil := by cases b <;> first | rfl | (exfalso; have h9 : (0 : Nat) = 1 := h; omega) | (exfalso; have h9 : (2 : Nat) = 1 := h; omega) | (exfalso; have h9 : (3 : Nat) = 1 := h; omega) | (exfalso; have h9 : (4 : Nat) = 1 := h; omega) | (exfalso; have h9 : (5 : Nat) = 1 := h; omega) | (exfalso; have h9 : (11 : Nat) = 1 := h; omega) | (exfalso; have h9 : (12 : Nat) = 1 := h; omega) | (exfalso; have h9 : (13 : Nat) = 1 := h; omega) | (exfalso; have h9 : (14 : Nat) = 1 := h; omega) | (exfalso; have h9 : (15 : Nat) = 1 := h; omega)
theorem nilNo_2 {b : AV} (h : nilNo b = 2) : b = .snil := by cases b <;> first | rfl | (exfalso; have h9 : (0 : Nat) = 2 := h; omega) | (exfalso; have h9 : (1 : Nat) = 2 := h; omega) | (exfalso; have h9 : (3 : Nat) = 2 := h; omega) | (exfalso; have h9 : (4 : Nat) = 2 := h; omega) | (exfalso; have h9 : (5 : Nat) = 2 := h; omega) | (exfalso; have h9 : (11 : Nat) = 2 := h; omega) | (exfalso; have h9 : (12 : Nat) = 2 := h; omega) | (exfalso; have h9 : (13 : Nat) = 2 := h; omega) | (exfalso; have h9 : (14 : Nat) = 2 := h; omega) | (exfalso; have h9 : (15 : Nat) = 2 := h; omega)
theorem nilNo_3 {b : AV} (h : nilNo b = 3) : b = .mnil := by cases b <;> first | rfl | (exfalso; have h9 : (0 : Nat) = 3 := h; omega) | (exfalso; have h9 : (1 : Nat) = 3 := h; omega) | (exfalso; have h9 : (2 : Nat) = 3 := h; omega) | (exfalso; have h9 : (4 : Nat) = 3 := h; omega) | (exfalso; have h9 : (5 : Nat) = 3 := h; omega) | (exfalso; have h9 : (11 : Nat) = 3 := h; omega) | (exfalso; have h9 : (12 : Nat) = 3 := h; omega) | (exfalso; have h9 : (13 : Nat) = 3 := h; omega) | (exfalso; have h9 : (14 : Nat) = 3 := h; omega) | (exfalso; have h9 : (15 : Nat) = 3 := h; omega)
theorem nilNo_4 {b : AV} (h : nilNo b = 4) : b = .fnil := by cases b <;> first | rfl | (exfalso; have h9 : (0 : Nat) = 4 := h; omega) | (exfalso; have h9 : (1 : Nat) = 4 := h; omega) | (exfalso; have h9 : (2 : Nat) = 4 := h; omega) | (exfalso; have h9 : (3 : Nat) = 4 := h; omega) | (exfalso; have h9 : (5 : Nat) = 4 := h; omega) | (exfalso; have h9 : (11 : Nat) = 4 := h; omega) | (exfalso; have h9 : (12 : Nat) = 4 := h; omega) | (exfalso; have h9 : (13 : Nat) = 4 := h; omega) | (exfalso; have h9 : (14 : Nat) = 4 := h; omega) | (exfalso; have h9 : (15 : Nat) = 4 := h; omega)
theorem nilNo_5 {b : AV} (h : nilNo b = 5) : b = .inil := by cases b <;> first | rfl | (exfalso; have h9 : (0 : Nat) = 5 := h; omega) | (exfalso; have h9 : (1 : Nat) = 5 := h; omega) | (exfalso; have h9 : (2 : Nat) = 5 := h; omega) | (exfalso; have h9 : (3 : Nat) = 5 := h; omega) | (exfalso; have h9 : (4 : Nat) = 5 := h; omega) | (exfalso; have h9 : (11 : Nat) = 5 := h; omega) | (exfalso; have h9 : (12 : Nat) = 5 := h; omega) | (exfalso; have h9 : (13 : Nat) = 5 := h; omega) | (exfalso; have h9 : (14 : Nat) = 5 := h; omega) | (exfalso; have h9 : (15 : Nat) = 5 := h; omega)

mutual
theorem sameV_eq : ∀ (x y : AV), sameV x y = true → x = y
  | .bool x, y, h => by
    obtain ⟨b, rfl, h9⟩ := onBool_some (toB_true h)
    cases x <;> cases b <;> first | rfl | cases h9
  | .int k n, y, h => by
    obtain ⟨j, m, rfl, h9⟩ := onInt_some (toB_true h)
    obtain ⟨h1, h2⟩ := ifB_bool (Option.some.inj h9)
    rw [eqK_eq, decide_eq_true_eq] at h2
    rw [kindNo_inj h1, h2]
  | .str s, y, h => by
    obtain ⟨r, rfl, h9⟩ := onStr_some (toB_true h)
    rw [(strEq_iff s r).1 (Option.some.inj h9)]
  | .pnil, y, h => (nilNo_1 (beq_true h)).symm
  | .ptr p q, y, h => by
    obtain ⟨p', q', rfl, h9⟩ := onPtr_some (toB_true h)
    obtain ⟨h1, h2⟩ := ifB_bool (Option.some.inj h9)
    rw [beq_true h1, beq_true h2]
  | .snil, y, h => (nilNo_2 (beq_true h)).symm
  | .sl p q l c o, y, h => by
    obtain ⟨p', q', l', c', o', rfl, h9⟩ := onSl_some (toB_true h)
    obtain ⟨h1, h8⟩ := ifB_bool (Option.some.inj h9)
    obtain ⟨h2, h7⟩ := ifB_bool h8
    obtain ⟨h3, h6⟩ := ifB_bool h7
    obtain ⟨h4, h5⟩ := ifB_bool h6
    rw [beq_true h1, beq_true h2, beq_true h3, beq_true h4]
    cases o <;> cases o' <;> first | rfl | cases h5
  | .mnil, y, h => (nilNo_3 (beq_true h)).symm
  | .map p, y, h => by
    obtain ⟨p', rfl, h9⟩ := onMap_some (toB_true h)
    rw [beq_true (Option.some.inj h9)]
  | .fnil, y, h => (nilNo_4 (beq_true h)).symm
  | .fn f a1 c1, y, h => by
    obtain ⟨f', a', c', rfl, h9⟩ := onFn_some (toB_true h)
    obtain ⟨h1, h8⟩ := ifB_bool (Option.some.inj h9)
    obtain ⟨h2, h3⟩ := ifB_bool h8
    have h1 : f = f' := beq_true h1
    rw [h1, sameVs_eq a1 a' h2, sameVs_eq c1 c' h3]
  | .inil, y, h => (nilNo_5 (beq_true h)).symm
  | .ifc t v, y, h => by
    obtain ⟨t', v', rfl, h9⟩ := onIfc_some (toB_true h)
    obtain ⟨h1, h2⟩ := ifB_bool (Option.some.inj h9)
    have h1 : t = t' := beq_true h1
    rw [h1, sameV_eq v v' h2]
  | .agg cs, y, h => by
    obtain ⟨cs', rfl, h9⟩ := onAgg_some (toB_true h)
    rw [sameVs_eq cs cs' (Option.some.inj h9)]
  | .bytes l n, y, h => by
    obtain ⟨l', n', rfl, h9⟩ := onBytes_some (toB_true h)
    obtain ⟨h1, h2⟩ := ifB_bool (Option.some.inj h9)
    rw [beq_true h1, beq_true h2]
  | .tup cs, y, h => by
    obtain ⟨cs', rfl, h9⟩ := onTup_some (toB_true h)
    rw [sameVs_eq cs cs' (Option.some.inj h9)]
  | .junk, y, h => by cases h
  | .raw _ _, y, h => by cases h
  | .lit _, y, h => by cases h
theorem sameVs_eq : ∀ (x y : List AV), AV.rec_1 (motive_1 := fun _ => AV → Bool) (motive_2 := fun _ => List AV → Bool)
    (fun x b => toB (onBool b fun y => some (ifB x y (ifB y false true))))
    (fun k n b => toB (onInt b fun j m => some (ifB (sameKind k j) (eqK n m) false)))
    (fun s b => toB (onStr b fun r => some (strEq s r)))
    (fun b => Nat.beq (nilNo b) 1)
    (fun p q b => toB (onPtr b fun p' q' => some (ifB (Nat.beq p p') (Nat.beq q q') false)))
    (fun b => Nat.beq (nilNo b) 2)
    (fun p q l c o b => toB (onSl b fun p' q' l' c' o' => some (ifB (Nat.beq p p') (ifB (Nat.beq q q') (ifB (Nat.beq l l') (ifB (Nat.beq c c') (ifB o o' (ifB o' false true)) false) false) false) false)))
    (fun b => Nat.beq (nilNo b) 3)
    (fun p b => toB (onMap b fun p' => some (Nat.beq p p')))
    (fun b => Nat.beq (nilNo b) 4)
    (fun f _ _ i1 i2 b => toB (onFn b fun f' a' c' => some (ifB (Nat.beq f f') (ifB (i1 a') (i2 c') false) false)))
    (fun b => Nat.beq (nilNo b) 5)
    (fun t _ i b => toB (onIfc b fun t' v' => some (ifB (Nat.beq t t') (i v') false)))
    (fun _ i b => toB (onAgg b fun cs => some (i cs)))
    (fun l n b => toB (onBytes b fun l' n' => some (ifB (Nat.beq l l') (Nat.beq n n') false)))
    (fun _ i b => toB (onTup b fun cs => some (i cs)))
    (fun _ => false) (fun _ _ => false) (fun _ => false) (fun _ _ _ => false) (fun _ _ => false)
    (fun l => List.rec true (fun _ _ _ => false) l)
    (fun _ _ i is l => List.rec false (fun x r _ => ifB (i x) (is r) false) l) x y = true → x = y
  | [], [], _ => rfl
  | [], _ :: _, h => by cases h
  | _ :: _, [], h => by cases h
  | x :: xs, y :: ys, h => by
    obtain ⟨h1, h2⟩ := ifB_bool h
    rw [sameV_eq x y h1, sameVs_eq xs ys h2]
end
theorem sameD_true {d : Option (List D4)} {v : AV} (h : sameD d v t = true) : ∀ p, d = some p → evTmp p t = v := fun p hp => by
  subst hp
  exact (sameV_eq _ _ h).symm
end Go.Proofs.YtpllompnfhpfmaaGreatDoor.Exe
namespace Go.Proofs.YtpllompnfhpfmaaGreatDoor.Exe
open Go
variable {Lg : Laid} {base : Base Lg} {w : World} {P : Program} {ρ : Rho} {S : AS} {t : T} {o : Oper} {c : K} {z : AV × Option AS} {a : Act}

/-! ### Objects ahead of the world's, and behind -/
theorem WRel.ahead (h : WRel base ρ S w) (o : AObj) : WRel base ρ { heap := S.heap.setK (some o) S.next, next := Nat.succ S.next } w := by
  have hne : ∀ {b r}, ρ b = some r → b ≠ S.next := fun hb e => by subst e; rw [h.dom _ (Nat.le_refl _)] at hb; cases hb
  have hlive : ∀ {b r}, ρ b = some r → AS.live { heap := S.heap.setK (some o) S.next, next := Nat.succ S.next } b → S.live b := fun hb hl => by
    obtain ⟨ob, hl⟩ := hl
    rcases HT.getK_setK _ _ _ hl with ⟨e, _⟩ | ⟨_, g⟩
    · exact absurd e (hne hb)
    · exact ⟨_, g⟩
  exact { low := h.low, size := h.size, os := h.os, output := h.output, tape := h.tape, dom := fun b hb => h.dom b (by have hb : S.next + 1 ≤ b := hb; omega), rng := h.rng,
          inj := fun b c r x y hb hc eb ec => h.inj b c r x y (hlive eb hb) (hlive ec hc) eb ec,
          obj := fun b o' r x hb e => by
            rcases HT.getK_setK _ _ _ hb with ⟨e', _⟩ | ⟨_, g⟩
            · exact absurd e' (hne e)
            · exact h.obj b o' r x g e }
theorem Keep.ahead {ρ : Rho} {S : AS} {o : AObj} : Keep ρ ρ S { heap := S.heap.setK (some o) S.next, next := Nat.succ S.next } :=
  ⟨Nat.le_succ _, fun c hc ec => ⟨ec, fun o' ho => by
    rcases HT.getK_setK _ _ _ ho with ⟨h1, _⟩ | ⟨_, g⟩
    · omega
    · exact g⟩⟩

/-- An object that stands in our state already comes to be in the world. -/
theorem WRel.late (h : WRel base ρ S w) {id x : Nat} {ob : AObj} {u : Obj} (hid : id < S.next) (hn : ρ id = none) (hob : ∀ ob', S.heap.getK id = some ob' → ob' = ob) (hu : ∀ ρ' : Rho, ρ.le ρ' → ORel ρ' x ob u) :
    WRel base (ρ.add id (w.heap.size, x)) S (w.alloc u) := by
  have hle : ρ.le (ρ.add id (w.heap.size, x)) := Rho.le_add hn
  have hs : (w.alloc u).heap.size = w.heap.size + 1 := by show (w.heap.push u).size = _; simp
  have hold : ∀ r, r < w.heap.size → (w.alloc u).heap[r]? = w.heap[r]? := fun r hr => by show (w.heap.push u)[r]? = _; rw [Array.getElem?_push, if_neg (by omega)]
  refine { low := fun r hr ho => by rw [hold r (by have := h.size; omega)]; exact h.low r hr ho, size := by rw [hs]; have := h.size; omega, os := h.os, output := h.output, tape := h.tape, dom := fun b hb => ?_, rng := fun b r y e => ?_, inj := fun b c r y z hb hc eb ec => ?_, obj := fun b o' r y hb e => ?_ }
  · unfold Rho.add
    rw [if_neg (by omega)]
    exact h.dom b hb
  · rw [hs]
    unfold Rho.add at e
    by_cases hc : b = id
    · rw [if_pos hc] at e; cases e; have := h.size; exact ⟨.inl (by omega), by omega⟩
    · rw [if_neg hc] at e; have := h.rng _ _ _ e; exact ⟨this.1, by omega⟩
  · unfold Rho.add at eb ec
    by_cases h1 : b = id <;> by_cases h2 : c = id
    · omega
    · rw [if_pos h1] at eb; rw [if_neg h2] at ec; cases eb; have := (h.rng _ _ _ ec).2; omega
    · rw [if_neg h1] at eb; rw [if_pos h2] at ec; cases ec; have := (h.rng _ _ _ eb).2; omega
    · rw [if_neg h1] at eb; rw [if_neg h2] at ec
      exact h.inj b c r y z hb hc eb ec
  · unfold Rho.add at e
    by_cases h1 : b = id
    · rw [if_pos h1] at e
      cases e
      subst h1
      exact ⟨u, by show (w.heap.push u)[w.heap.size]? = _; simp, by rw [hob _ hb]; exact hu _ hle⟩
    · rw [if_neg h1] at e
      obtain ⟨v, hv, hr⟩ := h.obj b o' r y hb e
      exact ⟨v, by rw [hold r (h.rng _ _ _ e).2]; exact hv, hr.mono hle⟩

theorem val_not_mk {x : AO} (h : isVal x = true) : isMk x = false := by cases x <;> first | rfl | cases h

/-! ### A region whose order is drawn -/
def Anc (anc : List Nat) (i j : Nat) : Prop := (anc.getD i 0).testBit j = true
structure DrawnOk (P : Program) (ops : Array Oper) (anc : List Nat) (M N : Nat) : Prop where
  edges : ∀ (i : Nat) (o : Oper), ops[i]? = some o → ∀ e ∈ o.after, Region.binds .any e = true → e.on < i
  must : ∀ (i : Nat) (o : Oper), ops[i]? = some o → ∀ j, Anc anc i j → ∃ e ∈ o.after, Region.binds .any e = true ∧ (j = e.on ∨ Anc anc e.on j)
  reads : ∀ (i j : Nat) (o o' : Oper) (d : Nat), ops[i]? = some o → ops[j]? = some o' → o'.dst = some d → d ∈ looksA (compOper P ops o) → Anc anc i j ∨ (M.testBit j = true ∧ (i = j ∨ Anc anc j i))
  dsts : ∀ (i j : Nat) (o o' : Oper) (d : Nat), ops[i]? = some o → ops[j]? = some o' → i ≠ j → o.dst = some d → o'.dst = some d → (M.testBit j = true ∧ Anc anc j i) ∨ (M.testBit i = true ∧ Anc anc i j)
  tmps : ∀ (i : Nat) (o : Oper) (d : Nat), ops[i]? = some o → o.dst = some d → d < N

section
variable (P) (ops : Array Oper)
/-- What stands in an operation's temporary. -/
def Holds (o : Oper) (v : AV) (t : T) : Prop := ∀ d, o.dst = some d → evTmp (pathOf d) t = v
def ValAt (o : Oper) (t : T) (S : AS) (now : Prop) : Prop :=
  (∀ k, wantC (compOper P ops o).guard t k = k true) ∧ isVal (compOp P o) = true ∧ ∃ v, Holds o v t ∧ (now → ∃ S', nowK (compOp P o) t S = some (v, S'))
def SkipAt (o : Oper) (t : T) : Prop := (∀ k, wantC (compOper P ops o).guard t k = k false) ∧ Holds o (.tup []) t
def MkAt (o : Oper) (t : T) (S : AS) (id : Nat) : Prop :=
  (∀ k, wantC (compOper P ops o).guard t k = k true) ∧ isMk (compOp P o) = true ∧ ∃ (ob : AObj) (vf : Nat → AV), (∀ S c, opK (compOp P o) t S c = newK S ob fun b S => c (vf b) S) ∧ Holds o (vf id) t ∧ id < S.next ∧ ∀ ob', S.heap.getK id = some ob' → ob' = ob
end

variable {ops : Array Oper}
theorem Holds.agree {o : Oper} {v : AV} {t t' : T} (h : Holds o v t) (hd : ∀ d, o.dst = some d → evTmp (pathOf d) t = evTmp (pathOf d) t') : Holds o v t' := fun d hd' => by rw [← hd d hd']; exact h d hd'
theorem ValAt.agree {o : Oper} {t t' : T} {S S' : AS} {now now' : Prop} (h : ValAt P ops o t S now) (ha : Agree (compOper P ops o) t t') (hd : ∀ d, o.dst = some d → evTmp (pathOf d) t = evTmp (pathOf d) t') (hnow : now' → now ∧ S' = S) : ValAt P ops o t' S' now' := by
  obtain ⟨h1, h2, v, h3, h4⟩ := h
  refine ⟨fun k => by rw [← ha.want]; exact h1 k, h2, v, h3.agree hd, fun hn => ?_⟩
  obtain ⟨hn, rfl⟩ := hnow hn
  obtain ⟨S2, h5⟩ := h4 hn
  exact ⟨S2, by rw [← h5]; exact (opK_congr _ ha.args _ _).symm⟩
theorem SkipAt.agree {o : Oper} {t t' : T} (h : SkipAt P ops o t) (ha : Agree (compOper P ops o) t t') (hd : ∀ d, o.dst = some d → evTmp (pathOf d) t = evTmp (pathOf d) t') : SkipAt P ops o t' :=
  ⟨fun k => by rw [← ha.want]; exact h.1 k, h.2.agree hd⟩
theorem MkAt.agree {o : Oper} {t t' : T} {S S' : AS} {id : Nat} (h : MkAt P ops o t S id) (ha : Agree (compOper P ops o) t t') (hd : ∀ d, o.dst = some d → evTmp (pathOf d) t = evTmp (pathOf d) t') (hS : S.next ≤ S'.next) (hh : ∀ x, S'.heap.getK id = some x → S.heap.getK id = some x) : MkAt P ops o t' S' id := by
  obtain ⟨h1, h2, ob, vf, h3, h4, h5, h6⟩ := h
  exact ⟨fun k => by rw [← ha.want]; exact h1 k, h2, ob, vf, fun S c => by rw [← h3]; exact (opK_congr _ ha.args _ _).symm, h4.agree hd, Nat.lt_of_lt_of_le h5 hS, fun ob' h => h6 ob' (hh ob' h)⟩

/-- What holds while a region goes on: 'L': what has come up; 'E': what our run has carried out. -/
structure Inv {Lg : Laid} (base : Base Lg) (P : Program) (ops : Array Oper) (anc : List Nat) (M N : Nat) (ρ0 : Rho) (S0 : AS) (L : Nat → Prop) (E F A V : Nat) (idf : Nat → Nat) (ρ : Rho) (S : AS) (w : World) (t : T) (a : Act) : Prop where
  world : WRel base ρ S w
  le : ρ0.le ρ
  keep : Keep ρ0 ρ S0 S
  defers : DfRel ρ t.off a.defers
  size : a.tmps.size = N
  den : ∀ n, (∀ (i : Nat) (o : Oper), ops[i]? = some o → o.dst = some n → E.testBit i = true → L i) → Den ρ (evTmp (pathOf n) t) (a.tmps.getD n undef)
  sub : ∀ i, L i → E.testBit i = true
  main : ∀ i, E.testBit i = true → ¬ L i → M.testBit i = false
  ancL : ∀ i, L i → ∀ j, Anc anc i j → L j
  ancE : ∀ i, E.testBit i = true → ∀ j, Anc anc i j → E.testBit j = true
  inA : ∀ j, A.testBit j = true → L j
  vE : ∀ i, V.testBit i = true → E.testBit i = true
  fact : ∀ (i : Nat) (o : Oper), ops[i]? = some o → E.testBit i = true → ¬ L i → (V.testBit i = true ∧ ValAt P ops o t S (F.testBit i = true)) ∨ SkipAt P ops o t ∨ (MkAt P ops o t S (idf i) ∧ ρ (idf i) = none ∧ S0.next ≤ idf i)
  ids : ∀ (i j : Nat) (o o' : Oper), ops[i]? = some o → ops[j]? = some o' → E.testBit i = true → ¬ L i → E.testBit j = true → ¬ L j → MkAt P ops o t S (idf i) → MkAt P ops o' t S (idf j) → idf i = idf j → i = j

theorem evTmp_put_ne {n m : Nat} (h : n ≠ m) (v : AV) (t : T) : evTmp (pathOf n) (T.setP v (pathOf m) t) = evTmp (pathOf n) t := get_setP_ne v (fun e => h (pathOf_inj e)) t
theorem evTmp_put (n : Nat) (v : AV) (t : T) : evTmp (pathOf n) (T.setP v (pathOf n) t) = v := get_setP v _ t
theorem putT_ne {d : Option Nat} {n : Nat} (h : d ≠ some n) (v : AV) (t : T) : evTmp (pathOf n) (putT (d.map pathOf) v t) = evTmp (pathOf n) t := by
  cases d with
  | none => rfl
  | some m => exact evTmp_put_ne (fun e => h (by rw [e])) v t
theorem putT_holds (o : Oper) (v : AV) (t : T) : Holds o v (putT (o.dst.map pathOf) v t) := fun d hd => by
  rw [hd]; exact evTmp_put d v t

section
variable {anc : List Nat} {M N : Nat} {ρ0 : Rho} {S0 : AS} {L : Nat → Prop} {E F A V : Nat} {idf : Nat → Nat}

/-- Who has not come up is not touched by who is carried out now. -/
theorem Inv.frame (hd : DrawnOk P ops anc M N) (h : Inv base P ops anc M N ρ0 S0 L E F A V idf ρ S w t a) {i : Nat} {o : Oper} (ho : ops[i]? = some o) (hE : E.testBit i = false) (hlast : M.testBit i = true → ∀ j, Anc anc i j → L j) (v : AV)
    {j : Nat} {o' : Oper} (ho' : ops[j]? = some o') (hj : E.testBit j = true) (hL : ¬ L j) : Agree (compOper P ops o') t (putT (o.dst.map pathOf) v t) ∧ ∀ d, o'.dst = some d → evTmp (pathOf d) t = evTmp (pathOf d) (putT (o.dst.map pathOf) v t) := by
  have hij : j ≠ i := fun e => by subst e; rw [hj] at hE; cases hE
  have noanc : ¬ Anc anc j i := fun h' => by have := h.ancE j hj i h'; rw [hE] at this; cases this
  refine ⟨fun n hn => ?_, fun d hd' => ?_⟩
  · by_cases hdn : o.dst = some n
    · exfalso
      rcases hd.reads j i o' o n ho' ho hdn hn with h1 | ⟨h1, h2 | h2⟩
      · exact noanc h1
      · exact hij h2
      · exact hL (hlast h1 j h2)
    · exact (putT_ne hdn v t).symm
  · by_cases hdn : o.dst = some d
    · exfalso
      rcases hd.dsts i j o o' d ho ho' (Ne.symm hij) hdn hd' with ⟨h1, h2⟩ | ⟨h1, h2⟩
      · exact noanc h2
      · exact hL (hlast h1 j h2)
    · exact (putT_ne hdn v t).symm

theorem bit_self (a i : Nat) : (a ||| bitN i).testBit i = true := (orBit_test a i i).2 (.inr rfl)
theorem bit_old {a i j : Nat} (h : a.testBit j = true) : (a ||| bitN i).testBit j = true := (orBit_test a i j).2 (.inl h)
theorem bit_cases {a i j : Nat} (h : (a ||| bitN i).testBit j = true) : a.testBit j = true ∨ j = i := ((orBit_test a i j).1 h).imp id Eq.symm
theorem bit_ne {a i j : Nat} (hne : j ≠ i) : (a ||| bitN i).testBit j = a.testBit j := by
  cases h : a.testBit j with
  | true => exact bit_old h
  | false =>
    cases h' : (a ||| bitN i).testBit j with
    | false => rfl
    | true => rcases bit_cases h' with h'' | h''
              · rw [h''] at h; cases h
              · exact absurd h'' hne

/-- Our run carries out one that has not come up: a value, or one that is not wanted. -/
theorem Inv.val (hd : DrawnOk P ops anc M N) (h : Inv base P ops anc M N ρ0 S0 L E F A V idf ρ S w t a) {i : Nat} {o : Oper} (ho : ops[i]? = some o) (hE : E.testBit i = false) (hanc : ∀ j, Anc anc i j → E.testBit j = true) (hM : M.testBit i = false) {v : AV} {b : Bool}
    (hw : ∀ k, wantC (compOper P ops o).guard t k = k b) (hv : b = true → isVal (compOp P o) = true ∧ ∃ S', nowK (compOp P o) t S = some (v, S')) (hsk : b = false → v = .tup []) :
    Inv base P ops anc M N ρ0 S0 L (E ||| bitN i) (F ||| bitN i) A (V ||| bitN i) idf ρ S w (putT (o.dst.map pathOf) v t) a := by
  have hLi : ¬ L i := fun hl => by have := h.sub i hl; rw [hE] at this; cases this
  have hself : ¬ Anc anc i i := fun h' => by have := hanc i h'; rw [hE] at this; cases this
  have hown : Agree (compOper P ops o) t (putT (o.dst.map pathOf) v t) := fun n hn => by
    by_cases hdn : o.dst = some n
    · exfalso
      rcases hd.reads i i o o n ho ho hdn hn with h1 | ⟨h1, _⟩
      · exact hself h1
      · rw [hM] at h1; cases h1
    · exact (putT_ne hdn v t).symm
  have hfr := fun {j : Nat} {o' : Oper} (ho' : ops[j]? = some o') (hj : E.testBit j = true) (hL : ¬ L j) => h.frame hd ho hE (fun h1 => by rw [hM] at h1; cases h1) v ho' hj hL
  refine { world := h.world, le := h.le, keep := h.keep, defers := by rw [off_putT]; exact h.defers, size := h.size, den := fun n hn => ?_, sub := fun j hj => bit_old (h.sub j hj), main := fun j hj hL => ?_, ancL := h.ancL, ancE := fun j hj m hm => ?_, inA := h.inA, vE := fun j hj => ?_, fact := fun j o' ho' hj hL => ?_, ids := fun j1 j2 o1 o2 ho1 ho2 hj1 hL1 hj2 hL2 hm1 hm2 he => ?_ }
  · have hdn : o.dst ≠ some n := fun e => hLi (hn i o ho e (bit_self _ _))
    rw [putT_ne hdn]
    exact h.den n fun j o' ho' hd' hj => hn j o' ho' hd' (bit_old hj)
  · rcases bit_cases hj with hj | rfl
    · exact h.main j hj hL
    · exact hM
  · rcases bit_cases hj with hj | rfl
    · exact bit_old (h.ancE j hj m hm)
    · exact bit_old (hanc m hm)
  · rcases bit_cases hj with hj | rfl
    · exact bit_old (h.vE j hj)
    · exact bit_self _ _
  · rcases bit_cases hj with hj | rfl
    · have hne : j ≠ i := fun e => by rw [e] at hj; rw [hj] at hE; cases hE
      obtain ⟨f1, f2⟩ := hfr ho' hj hL
      rw [bit_ne hne, bit_ne hne]
      rcases h.fact j o' ho' hj hL with ⟨h1, h2⟩ | h1 | ⟨h1, h2, h3⟩
      · exact .inl ⟨h1, h2.agree f1 f2 fun h => ⟨h, rfl⟩⟩
      · exact .inr (.inl (h1.agree f1 f2))
      · exact .inr (.inr ⟨h1.agree f1 f2 (Nat.le_refl _) (fun _ h => h), h2, h3⟩)
    · rw [ho] at ho'
      cases ho'
      cases b with
      | true =>
        obtain ⟨h1, S', h2⟩ := hv rfl
        exact .inl ⟨bit_self _ _, fun k => by rw [← hown.want]; exact hw k, h1, v, putT_holds o v t, fun _ => ⟨S', by rw [← h2]; exact (opK_congr _ hown.args _ _).symm⟩⟩
      | false =>
        have := hsk rfl
        subst this
        exact .inr (.inl ⟨fun k => by rw [← hown.want]; exact hw k, putT_holds o _ t⟩)
  · have key : ∀ {j : Nat} {o' : Oper}, ops[j]? = some o' → (E ||| bitN i).testBit j = true → ¬ L j → MkAt P ops o' (putT (o.dst.map pathOf) v t) S (idf j) → E.testBit j = true ∧ MkAt P ops o' t S (idf j) := by
      intro j o' ho' hj hL hm
      rcases bit_cases hj with hj | rfl
      · obtain ⟨f1, f2⟩ := hfr ho' hj hL
        exact ⟨hj, hm.agree (fun n hn => (f1 n hn).symm) (fun d hd => (f2 d hd).symm) (Nat.le_refl _) (fun _ h => h)⟩
      · exfalso
        rw [ho] at ho'
        cases ho'
        have h1 := hm.1 (fun b => if b = true then some (AV.pnil, S) else none)
        rw [← hown.want, hw] at h1
        cases b with
        | false => cases h1
        | true =>
          have h2 := (hv rfl).1
          have h3 := hm.2.1
          rw [val_not_mk h2] at h3
          cases h3
    obtain ⟨e1, m1⟩ := key ho1 hj1 hL1 hm1
    obtain ⟨e2, m2⟩ := key ho2 hj2 hL2 hm2
    exact h.ids j1 j2 o1 o2 ho1 ho2 e1 hL1 e2 hL2 m1 m2 he

/-- Our run makes a new object that the world has not yet. -/
theorem Inv.mk' (hd : DrawnOk P ops anc M N) (h : Inv base P ops anc M N ρ0 S0 L E F A V idf ρ S w t a) {i : Nat} {o : Oper} (ho : ops[i]? = some o) (hE : E.testBit i = false) (hanc : ∀ j, Anc anc i j → E.testBit j = true) (hM : M.testBit i = false) {ob : AObj} {vf : Nat → AV}
    (hw : ∀ k, wantC (compOper P ops o).guard t k = k true) (hmk : isMk (compOp P o) = true) (heq : ∀ S c, opK (compOp P o) t S c = newK S ob fun b S => c (vf b) S) :
    Inv base P ops anc M N ρ0 S0 L (E ||| bitN i) 0 A V (fun j => if j = i then S.next else idf j) ρ { heap := S.heap.setK (some ob) S.next, next := Nat.succ S.next } w (putT (o.dst.map pathOf) (vf S.next) t) a := by
  have hLi : ¬ L i := fun hl => by have := h.sub i hl; rw [hE] at this; cases this
  have hself : ¬ Anc anc i i := fun h' => by have := hanc i h'; rw [hE] at this; cases this
  have hown : Agree (compOper P ops o) t (putT (o.dst.map pathOf) (vf S.next) t) := fun n hn => by
    by_cases hdn : o.dst = some n
    · exfalso
      rcases hd.reads i i o o n ho ho hdn hn with h1 | ⟨h1, _⟩
      · exact hself h1
      · rw [hM] at h1; cases h1
    · exact (putT_ne hdn _ t).symm
  have hfr := fun {j : Nat} {o' : Oper} (ho' : ops[j]? = some o') (hj : E.testBit j = true) (hL : ¬ L j) => h.frame hd ho hE (fun h1 => by rw [hM] at h1; cases h1) (vf S.next) ho' hj hL
  have hback : ∀ {id x}, id < S.next → (S.heap.setK (some ob) S.next).getK id = some x → S.heap.getK id = some x := fun hid hx => by
    rcases HT.getK_setK _ _ _ hx with ⟨e, _⟩ | ⟨_, g⟩
    · omega
    · exact g
  refine { world := h.world.ahead ob, le := h.le, keep := h.keep.trans .ahead, defers := by rw [off_putT]; exact h.defers, size := h.size, den := fun n hn => ?_, sub := fun j hj => bit_old (h.sub j hj), main := fun j hj hL => ?_, ancL := h.ancL, ancE := fun j hj m hm => ?_, inA := h.inA, vE := fun j hj => bit_old (h.vE j hj), fact := fun j o' ho' hj hL => ?_, ids := fun j1 j2 o1 o2 ho1 ho2 hj1 hL1 hj2 hL2 hm1 hm2 he => ?_ }
  · have hdn : o.dst ≠ some n := fun e => hLi (hn i o ho e (bit_self _ _))
    rw [putT_ne hdn]
    exact h.den n fun j o' ho' hd' hj => hn j o' ho' hd' (bit_old hj)
  · rcases bit_cases hj with hj | rfl
    · exact h.main j hj hL
    · exact hM
  · rcases bit_cases hj with hj | rfl
    · exact bit_old (h.ancE j hj m hm)
    · exact bit_old (hanc m hm)
  · rcases bit_cases hj with hj | rfl
    · have hne : j ≠ i := fun e => by rw [e] at hj; rw [hj] at hE; cases hE
      obtain ⟨f1, f2⟩ := hfr ho' hj hL
      rcases h.fact j o' ho' hj hL with ⟨h1, h2⟩ | h1 | ⟨h1, h2, h3⟩
      · exact .inl ⟨h1, h2.agree f1 f2 fun h => by rw [zero_test] at h; cases h⟩
      · exact .inr (.inl (h1.agree f1 f2))
      · refine .inr (.inr ?_)
        simp only [if_neg hne]
        have hid : idf j < S.next := by obtain ⟨_, _, _, _, _, _, h5, _⟩ := h1; exact h5
        exact ⟨h1.agree f1 f2 (Nat.le_succ _) (fun x hx => hback hid hx), h2, h3⟩
    · rw [ho] at ho'
      cases ho'
      refine .inr (.inr ?_)
      simp only [if_true]
      refine ⟨⟨fun k => by rw [← hown.want]; exact hw k, hmk, ob, vf, fun S c => by rw [← heq]; exact (opK_congr _ hown.args _ _).symm, putT_holds o _ t, Nat.lt_succ_self _, fun ob' hob => ?_⟩, h.world.dom _ (Nat.le_refl _), h.keep.1⟩
      rcases HT.getK_setK _ _ _ hob with ⟨_, e⟩ | ⟨e, _⟩
      · exact (Option.some.inj e).symm
      · exact absurd rfl e
  · have key : ∀ {j : Nat} {o' : Oper}, ops[j]? = some o' → (E ||| bitN i).testBit j = true → ¬ L j → j ≠ i → MkAt P ops o' (putT (o.dst.map pathOf) (vf S.next) t) { heap := S.heap.setK (some ob) S.next, next := Nat.succ S.next } (idf j) → E.testBit j = true ∧ idf j < S.next ∧ MkAt P ops o' t S (idf j) := by
      intro j o' ho' hj hL hne hm
      have hj : E.testBit j = true := (bit_cases hj).resolve_right hne
      obtain ⟨f1, f2⟩ := hfr ho' hj hL
      rcases h.fact j o' ho' hj hL with ⟨_, h2⟩ | h1 | ⟨h1, h2, h3⟩
      · exfalso
        have h3 := hm.2.1
        rw [val_not_mk h2.2.1] at h3
        cases h3
      · exfalso
        have e1 := hm.1 (fun b => if b = true then some (AV.pnil, S) else none)
        have e2 := (h1.agree f1 f2).1 (fun b => if b = true then some (AV.pnil, S) else none)
        rw [e1] at e2
        cases e2
      · exact ⟨hj, (by obtain ⟨_, _, _, _, _, _, h5, _⟩ := h1; exact h5), h1⟩
    by_cases e1 : j1 = i <;> by_cases e2 : j2 = i
    · rw [e1, e2]
    · simp only [if_pos e1, if_neg e2] at he hm2
      have := (key ho2 hj2 hL2 e2 hm2).2.1
      omega
    · simp only [if_neg e1, if_pos e2] at he hm1
      have := (key ho1 hj1 hL1 e1 hm1).2.1
      omega
    · simp only [if_neg e1, if_neg e2] at he hm1 hm2
      obtain ⟨a1, _, a3⟩ := key ho1 hj1 hL1 e1 hm1
      obtain ⟨b1, _, b3⟩ := key ho2 hj2 hL2 e2 hm2
      exact h.ids j1 j2 o1 o2 ho1 ho2 a1 hL1 b1 hL2 a3 b3 he

/-- A new object that is not wanted. -/
theorem Inv.mkSkip (hd : DrawnOk P ops anc M N) (h : Inv base P ops anc M N ρ0 S0 L E F A V idf ρ S w t a) {i : Nat} {o : Oper} (ho : ops[i]? = some o) (hE : E.testBit i = false) (hanc : ∀ j, Anc anc i j → E.testBit j = true) (hM : M.testBit i = false)
    (hw : ∀ k, wantC (compOper P ops o).guard t k = k false) : Inv base P ops anc M N ρ0 S0 L (E ||| bitN i) 0 A V idf ρ S w (putT (o.dst.map pathOf) (.tup []) t) a := by
  have h1 := h.val hd ho hE hanc hM (v := .tup []) (b := false) hw (fun h => by cases h) (fun _ => rfl)
  exact { h1 with
    vE := fun j hj => bit_old (h.vE j hj)
    fact := fun j o' ho' hj hL => by
      rcases h1.fact j o' ho' hj hL with ⟨e1, e2⟩ | e | e
      · by_cases hji : j = i
        · subst hji
          rw [ho] at ho'
          cases ho'
          exfalso
          have hag : ∀ k, wantC (compOper P ops o).guard (putT (o.dst.map pathOf) (.tup []) t) k = k false := by
            rcases h1.fact j o ho (bit_self _ _) hL with ⟨_, q⟩ | q | q
            · intro k
              have hself : ¬ Anc anc j j := fun h' => by have := hanc j h'; rw [hE] at this; cases this
              have hown : Agree (compOper P ops o) t (putT (o.dst.map pathOf) (.tup []) t) := fun n hn => by
                by_cases hdn : o.dst = some n
                · exfalso
                  rcases hd.reads j j o o n ho ho hdn hn with h1 | ⟨h1, _⟩
                  · exact hself h1
                  · rw [hM] at h1; cases h1
                · exact (putT_ne hdn _ t).symm
              rw [← hown.want]; exact hw k
            · exact q.1
            · intro k
              have hself : ¬ Anc anc j j := fun h' => by have := hanc j h'; rw [hE] at this; cases this
              have hown : Agree (compOper P ops o) t (putT (o.dst.map pathOf) (.tup []) t) := fun n hn => by
                by_cases hdn : o.dst = some n
                · exfalso
                  rcases hd.reads j j o o n ho ho hdn hn with h1 | ⟨h1, _⟩
                  · exact hself h1
                  · rw [hM] at h1; cases h1
                · exact (putT_ne hdn _ t).symm
              rw [← hown.want]; exact hw k
          have q1 := e2.1 (fun b => if b = true then some (AV.pnil, S) else none)
          rw [hag] at q1
          cases q1
        · exact .inl ⟨by rw [bit_ne hji] at e1; exact e1, e2.1, e2.2.1, by obtain ⟨_, _, v, q1, _⟩ := e2; exact ⟨v, q1, fun h => by rw [zero_test] at h; cases h⟩⟩
      · exact .inr (.inl e)
      · exact .inr (.inr e) }
end
end Go.Proofs.YtpllompnfhpfmaaGreatDoor.Exe
namespace Go.Proofs.YtpllompnfhpfmaaGreatDoor.Exe
open Go
variable {Lg : Laid} {base : Base Lg} {w : World} {P : Program} {ρ : Rho} {S : AS} {t : T} {o : Oper} {c : K} {z : AV × Option AS} {a : Act}
variable {ops : Array Oper} {anc : List Nat} {M N : Nat} {ρ0 : Rho} {S0 : AS} {L : Nat → Prop} {E F A V : Nat} {idf : Nat → Nat}

theorem Inv.chk (h : Inv base P ops anc M N ρ0 S0 L E F A V idf ρ S w t a) {i : Nat} {o : Oper} (ho : ops[i]? = some o) (hV : V.testBit i = true) {b : Bool}
    (hw : ∀ k, wantC (compOper P ops o).guard t k = k b) (hv : b = true → isVal (compOp P o) = true ∧ ∃ v S', nowK (compOp P o) t S = some (v, S') ∧ Holds o v t) :
    Inv base P ops anc M N ρ0 S0 L E (F ||| bitN i) A V idf ρ S w t a :=
  { h with
    fact := fun j o' ho' hj hL => by
      by_cases hji : j = i
      · subst hji
        rw [ho] at ho'
        cases ho'
        cases b with
        | true =>
          obtain ⟨h1, v, S', h2, h3⟩ := hv rfl
          exact .inl ⟨hV, hw, h1, v, h3, fun _ => ⟨S', h2⟩⟩
        | false =>
          rcases h.fact j o ho hj hL with ⟨_, q⟩ | q | q
          · exfalso
            have q1 := q.1 (fun b => if b = true then some (AV.pnil, S) else none)
            rw [hw] at q1
            cases q1
          · exact .inr (.inl q)
          · exact .inr (.inr q)
      · rcases h.fact j o' ho' hj hL with ⟨e1, e2⟩ | e | e
        · rw [bit_ne hji]; exact .inl ⟨e1, e2⟩
        · exact .inr (.inl e)
        · exact .inr (.inr e) }

theorem as_get (i : Nat) : ((ops.toList.map (compOper P ops))[i]?) = (ops[i]?).map (compOper P ops) := by simp
theorem blt_lt {a b : Nat} (h : Nat.blt a b = true) : a < b := ble_true h

/-- Our run up to the next one of kind 2. -/
theorem stage {cl : Cl} {k : KL} (hd : DrawnOk P ops anc M N) : ∀ (res : List (Nat × Nat)) (E F V : Nat) (idf : Nat → Nat) (S : AS) (t : T), Inv base P ops anc M N ρ0 S0 L E F A V idf ρ S w t a → runL (compW (ops.toList.map (compOper P ops)) res) cl t S k = some z → chkL (ops.toList.map (compOper P ops)) anc M res E F A V = true →
    ∃ res' E' F' V' idf' S' t', Inv base P ops anc M N ρ0 S0 L E' F' A V' idf' ρ S' w t' a ∧ runL (compW (ops.toList.map (compOper P ops)) res') cl t' S' k = some z ∧ chkL (ops.toList.map (compOper P ops)) anc M res' E' F' A V' = true ∧ (res' = [] ∨ ∃ p r, res' = (2, p) :: r)
  | [], E, F, V, idf, S, t, h, hr, hc => ⟨[], E, F, V, idf, S, t, h, hr, hc, .inl rfl⟩
  | (kd, i) :: r, E, F, V, idf, S, t, h, hr, hc => by
    cases ho : ops[i]? with
    | none => unfold chkL at hc; rw [as_get, ho] at hc; cases hc
    | some o =>
      have hget := as_get (P := P) (ops := ops) i
      rw [ho] at hget
      have hget : ((ops.toList.map (compOper P ops))[i]?) = some (compOper P ops o) := hget
      match kd with
      | 2 => exact ⟨(2, i) :: r, E, F, V, idf, S, t, h, hr, hc, .inr ⟨i, r, rfl⟩⟩
      | 3 =>
        unfold chkL at hc
        rw [hget] at hc
        simp only [Bool.and_eq_true] at hc
        obtain ⟨⟨hV, hval⟩, hc⟩ := hc
        unfold compW at hr
        rw [hget] at hr
        have hr : wantC (compOper P ops o).guard t (fun b => ifB b (onSome (nowK (compOp P o) t S) fun p => ifB (sameD (o.dst.map pathOf) p.1 t) (runL (compW (ops.toList.map (compOper P ops)) r) cl t S k) none) (runL (compW (ops.toList.map (compOper P ops)) r) cl t S k)) = some z := hr
        obtain ⟨b, hb, hw⟩ := wantC_cases hr
        cases b with
        | true =>
          obtain ⟨p, hp, hb⟩ := onSome_some (show onSome (nowK (compOp P o) t S) (fun p => ifB (sameD (o.dst.map pathOf) p.1 t) (runL (compW (ops.toList.map (compOper P ops)) r) cl t S k) none) = some z from hb)
          obtain ⟨hs, hb⟩ := ifB_some hb
          have hh : Holds o p.1 t := fun d hd => sameD_true hs (pathOf d) (by rw [hd]; rfl)
          exact stage hd r E (F ||| bitN i) V idf S t (h.chk ho hV hw fun _ => ⟨hval, p.1, p.2, hp, hh⟩) hb hc
        | false => exact stage hd r E (F ||| bitN i) V idf S t (h.chk ho hV hw fun h => by cases h) hb hc
      | 0 =>
        unfold chkL at hc
        rw [hget] at hc
        simp only [Bool.and_eq_true, Bool.not_eq_true'] at hc
        obtain ⟨⟨hE, hanc⟩, ⟨hval, hM⟩, hc⟩ := hc
        unfold compW at hr
        rw [hget] at hr
        have hr : wantC (compOper P ops o).guard t (fun b => ifB b (onSome (nowK (compOp P o) t S) fun p => runL (compW (ops.toList.map (compOper P ops)) r) cl (putT (o.dst.map pathOf) p.1 t) S k) (runL (compW (ops.toList.map (compOper P ops)) r) cl (putT (o.dst.map pathOf) (.tup []) t) S k)) = some z := (lVal_eq _ (compW (ops.toList.map (compOper P ops)) r) _ _ _ _ _).symm.trans hr
        obtain ⟨b, hb, hw⟩ := wantC_cases hr
        cases b with
        | true =>
          obtain ⟨p, hp, hb⟩ := onSome_some (show onSome (nowK (compOp P o) t S) (fun p => runL (compW (ops.toList.map (compOper P ops)) r) cl (putT (o.dst.map pathOf) p.1 t) S k) = some z from hb)
          exact stage hd r _ _ _ idf S _ (h.val hd ho hE (fun j hj => subN_test hanc hj) hM hw (fun _ => ⟨hval, p.2, hp⟩) (fun h => by cases h)) hb hc
        | false => exact stage hd r _ _ _ idf S _ (h.val hd ho hE (fun j hj => subN_test hanc hj) hM hw (fun h => by cases h) (fun _ => rfl)) hb hc
      | 1 =>
        unfold chkL at hc
        rw [hget] at hc
        simp only [Bool.and_eq_true, Bool.not_eq_true'] at hc
        obtain ⟨⟨hE, hanc⟩, ⟨hmk, hM⟩, hc⟩ := hc
        have hmk : isMk (compOp P o) = true := hmk
        unfold compW at hr
        rw [hget] at hr
        have hr : wantC (compOper P ops o).guard t (fun b => ifB b (stepC (compOp P o) cl t S fun v S => runL (compW (ops.toList.map (compOper P ops)) r) cl (putT (o.dst.map pathOf) v t) S k) (runL (compW (ops.toList.map (compOper P ops)) r) cl (putT (o.dst.map pathOf) (.tup []) t) S k)) = some z := (lGen_eq _ (compW (ops.toList.map (compOper P ops)) r) _ _ _ _ _).symm.trans hr
        obtain ⟨b, hb, hw⟩ := wantC_cases hr
        cases b with
        | true =>
          have hb : stepC (compOp P o) cl t S (fun v S => runL (compW (ops.toList.map (compOper P ops)) r) cl (putT (o.dst.map pathOf) v t) S k) = some z := hb
          have hx := compOp_some hb
          have hnc : isCall (compOp P o) = false := by
            cases hq : isCall (compOp P o) with
            | false => rfl
            | true => rw [(isCall_class hq).2] at hmk; cases hmk
          rw [stepC_plain hnc] at hb
          rcases sound_of (Lg := Lg) hx with ⟨h1, _⟩ | ⟨_, _, h1⟩ | ⟨_, h1, _⟩
          · rw [val_not_mk h1] at hmk; cases hmk
          · obtain ⟨ob, vf, heq, _⟩ := h1 t S _ z hb
            rw [heq] at hb
            have hb := newK_some hb
            exact stage hd r _ _ _ _ _ _ (h.mk' hd ho hE (fun j hj => subN_test hanc hj) hM hw hmk heq) hb hc
          · rw [h1] at hmk; cases hmk
        | false => exact stage hd r _ _ _ idf S _ (h.mkSkip hd ho hE (fun j hj => subN_test hanc hj) hM hw) hb hc
      | n + 4 =>
        unfold chkL at hc
        rw [hget] at hc
        simp at hc

/-- One that our run has carried out comes up. -/
theorem Inv.come (h : Inv base P ops anc M N ρ0 S0 L E F A V idf ρ S w t a) {i : Nat} {o : Oper} (ho : ops[i]? = some o) (hE : E.testBit i = true) (hanc : ∀ j, Anc anc i j → L j) (hN : ∀ d, o.dst = some d → d < N) {ρ' : Rho} {w' : World} {v : AV} {u : Value} (hh : Holds o v t) (hle : ρ.le ρ') (hk : Keep ρ0 ρ' S0 S) (hw : WRel base ρ' S w') (hv : Den ρ' v u)
    (hids : ∀ j o', ops[j]? = some o' → E.testBit j = true → ¬ L j → j ≠ i → MkAt P ops o' t S (idf j) → ρ (idf j) = none → ρ' (idf j) = none) :
    Inv base P ops anc M N ρ0 S0 (fun j => L j ∨ j = i) E F A V idf ρ' S w' t (a.put o.dst u) :=
  { world := hw, le := Rho.le_trans h.le hle, keep := hk, defers := by rw [put_defers]; exact h.defers.mono hle, size := by rw [put_size]; exact h.size,
    den := fun n hn => by
      by_cases hdn : o.dst = some n
      · rw [hh n hdn, hdn]
        have e2 : (a.put (some n) u).tmps.getD n undef = u := by
          show (a.tmps.setIfInBounds n u).getD n undef = u
          have := hN n hdn
          rw [← h.size] at this
          simp [Array.getD, this]
        rw [e2]
        exact hv
      · have e2 : (a.put o.dst u).tmps.getD n undef = a.tmps.getD n undef := by
          cases hd : o.dst with
          | none => rfl
          | some m =>
            show (a.tmps.setIfInBounds m u).getD n undef = _
            rw [Array.getD_eq_getD_getElem?, Array.getD_eq_getD_getElem?, Array.getElem?_setIfInBounds_ne (fun e => hdn (by rw [hd, e]))]
        rw [e2]
        refine (h.den n fun j o' ho' hd' hj => ?_).mono hle
        rcases hn j o' ho' hd' hj with h1 | h1
        · exact h1
        · subst h1
          rw [ho] at ho'
          cases ho'
          exact absurd hd' hdn,
    sub := fun j hj => by
      rcases hj with hj | rfl
      · exact h.sub j hj
      · exact hE,
    main := fun j hj hL => h.main j hj fun h => hL (.inl h),
    ancL := fun j hj m hm => by
      rcases hj with hj | rfl
      · exact .inl (h.ancL j hj m hm)
      · exact .inl (hanc m hm),
    ancE := h.ancE, inA := fun j hj => .inl (h.inA j hj), vE := h.vE,
    fact := fun j o' ho' hj hL => by
      have hL1 : ¬ L j := fun h => hL (.inl h)
      rcases h.fact j o' ho' hj hL1 with h1 | h1 | ⟨h1, h2, h3⟩
      · exact .inl h1
      · exact .inr (.inl h1)
      · exact .inr (.inr ⟨h1, hids j o' ho' hj hL1 (fun e => hL (.inr e)) h1 h2, h3⟩),
    ids := fun j1 j2 o1 o2 ho1 ho2 hj1 hL1 hj2 hL2 => h.ids j1 j2 o1 o2 ho1 ho2 hj1 (fun h => hL1 (.inl h)) hj2 (fun h => hL2 (.inl h)) }

/-- One of kind 2 comes up, and our run carries it out. -/
theorem Inv.mainStep (hd : DrawnOk P ops anc M N) (h : Inv base P ops anc M N ρ0 S0 L E F A V idf ρ S w t a) {i : Nat} {o : Oper} (ho : ops[i]? = some o) (hE : E.testBit i = false) (hanc : ∀ j, Anc anc i j → L j) {ρ' : Rho} {S' : AS} {w' : World} {v : AV} {u : Value} (hle : ρ.le ρ') (hk : Keep ρ ρ' S S') (hw : WRel base ρ' S' w') (hv : Den ρ' v u) :
    Inv base P ops anc M N ρ0 S0 (fun j => L j ∨ j = i) (E ||| bitN i) 0 (anc.getD i 0 ||| bitN i) V idf ρ' S' w' (putT (o.dst.map pathOf) v t) (a.put o.dst u) := by
  have hN : ∀ d, o.dst = some d → d < N := fun d => hd.tmps i o d ho
  have hfr := fun {j : Nat} {o' : Oper} (ho' : ops[j]? = some o') (hj : E.testBit j = true) (hL : ¬ L j) => h.frame hd ho hE (fun _ => hanc) v ho' hj hL
  have hold : ∀ {j}, (E ||| bitN i).testBit j = true → ¬ (L j ∨ j = i) → E.testBit j = true ∧ ¬ L j := fun hj hL => ⟨(bit_cases hj).resolve_right fun e => hL (.inr e), fun h => hL (.inl h)⟩
  refine { world := hw, le := Rho.le_trans h.le hle, keep := h.keep.trans hk, defers := by rw [put_defers, off_putT]; exact h.defers.mono hle, size := by rw [put_size]; exact h.size, den := fun n hn => ?_, sub := fun j hj => ?_, main := fun j hj hL => ?_, ancL := fun j hj m hm => ?_, ancE := fun j hj m hm => ?_, inA := fun j hj => ?_, vE := fun j hj => bit_old (h.vE j hj), fact := fun j o' ho' hj hL => ?_, ids := fun j1 j2 o1 o2 ho1 ho2 hj1 hL1 hj2 hL2 hm1 hm2 he => ?_ }
  · by_cases hdn : o.dst = some n
    · rw [hdn]
      have e2 : (a.put (some n) u).tmps.getD n undef = u := by
        show (a.tmps.setIfInBounds n u).getD n undef = u
        have := hN n hdn
        rw [← h.size] at this
        simp [Array.getD, this]
      rw [e2]
      show Den ρ' (evTmp (pathOf n) (T.setP v (pathOf n) t)) u
      rw [evTmp_put]
      exact hv
    · have e2 : (a.put o.dst u).tmps.getD n undef = a.tmps.getD n undef := by
        cases hd : o.dst with
        | none => rfl
        | some m =>
          show (a.tmps.setIfInBounds m u).getD n undef = _
          rw [Array.getD_eq_getD_getElem?, Array.getD_eq_getD_getElem?, Array.getElem?_setIfInBounds_ne (fun e => hdn (by rw [hd, e]))]
      rw [e2, putT_ne hdn]
      refine (h.den n fun j o' ho' hd' hj => ?_).mono hle
      rcases hn j o' ho' hd' (bit_old hj) with h1 | h1
      · exact h1
      · subst h1
        rw [hj] at hE
        cases hE
  · rcases hj with hj | rfl
    · exact bit_old (h.sub j hj)
    · exact bit_self _ _
  · exact h.main j (hold hj hL).1 (hold hj hL).2
  · rcases hj with hj | rfl
    · exact .inl (h.ancL j hj m hm)
    · exact .inl (hanc m hm)
  · rcases bit_cases hj with hj | rfl
    · exact bit_old (h.ancE j hj m hm)
    · exact bit_old (h.sub m (hanc m hm))
  · rcases bit_cases hj with hj | rfl
    · exact .inl (hanc j hj)
    · exact .inr rfl
  · obtain ⟨hj, hL⟩ := hold hj hL
    obtain ⟨f1, f2⟩ := hfr ho' hj hL
    rcases h.fact j o' ho' hj hL with ⟨h1, h2⟩ | h1 | ⟨h1, h2, h3⟩
    · exact .inl ⟨h1, h2.agree f1 f2 fun h => by rw [zero_test] at h; cases h⟩
    · exact .inr (.inl (h1.agree f1 f2))
    · have hid : idf j < S.next := by obtain ⟨_, _, _, _, _, _, h5, _⟩ := h1; exact h5
      obtain ⟨k1, k2⟩ := hk.2 _ hid h2
      exact .inr (.inr ⟨h1.agree f1 f2 hk.1 (fun x hx => k2 x hx), k1, h3⟩)
  · obtain ⟨hj1, hL1⟩ := hold hj1 hL1
    obtain ⟨hj2, hL2⟩ := hold hj2 hL2
    have key : ∀ {j : Nat} {o' : Oper}, ops[j]? = some o' → E.testBit j = true → ¬ L j → MkAt P ops o' (putT (o.dst.map pathOf) v t) S' (idf j) → MkAt P ops o' t S (idf j) := by
      intro j o' ho' hj hL hm
      obtain ⟨f1, f2⟩ := hfr ho' hj hL
      rcases h.fact j o' ho' hj hL with ⟨_, h2⟩ | h1 | ⟨h1, _, _⟩
      · exfalso
        have h3 := hm.2.1
        rw [val_not_mk h2.2.1] at h3
        cases h3
      · exfalso
        have e1 := hm.1 (fun b => if b = true then some (AV.pnil, S) else none)
        have e2 := (h1.agree f1 f2).1 (fun b => if b = true then some (AV.pnil, S) else none)
        rw [e1] at e2
        cases e2
      · exact h1
    exact h.ids j1 j2 o1 o2 ho1 ho2 hj1 hL1 hj2 hL2 (key ho1 hj1 hL1 hm1) (key ho2 hj2 hL2 hm2) he
end Go.Proofs.YtpllompnfhpfmaaGreatDoor.Exe
namespace Go.Proofs.YtpllompnfhpfmaaGreatDoor.Exe
open Go
variable {Lg : Laid} {base : Base Lg} {w : World} {P : Program} {ρ : Rho} {S : AS} {t : T} {o : Oper} {c : K} {z : AV × Option AS} {a : Act}
variable {ops : Array Oper} {anc : List Nat} {M N : Nat} {ρ0 : Rho} {S0 : AS} {L : Nat → Prop} {E F A V : Nat} {idf : Nat → Nat}

/-! ### What the order covers -/
theorem chkL_cons {as : List AOp} {k i : Nat} {r : List (Nat × Nat)} (h : chkL as anc M ((k, i) :: r) E F A V = true) :
    ∃ o, as[i]? = some o ∧ ((k = 3 ∧ ∃ F', chkL as anc M r E F' A V = true) ∨ (k ≠ 3 ∧ E.testBit i = false ∧ (∀ j, Anc anc i j → E.testBit j = true) ∧ ∃ F' A' V', chkL as anc M r (E ||| bitN i) F' A' V' = true)) := by
  unfold chkL at h
  cases ho : as[i]? with
  | none => rw [ho] at h; cases h
  | some o =>
    rw [ho] at h
    refine ⟨o, rfl, ?_⟩
    match k, h with
    | 0, h =>
      simp only [Bool.and_eq_true, Bool.not_eq_true'] at h
      exact .inr ⟨by omega, h.1.1, fun j hj => subN_test h.1.2 hj, _, _, _, h.2.2⟩
    | 1, h =>
      simp only [Bool.and_eq_true, Bool.not_eq_true'] at h
      exact .inr ⟨by omega, h.1.1, fun j hj => subN_test h.1.2 hj, _, _, _, h.2.2⟩
    | 2, h =>
      simp only [Bool.and_eq_true, Bool.not_eq_true'] at h
      exact .inr ⟨by omega, h.1.1, fun j hj => subN_test h.1.2 hj, _, _, _, h.2.2⟩
    | 3, h =>
      simp only [Bool.and_eq_true] at h
      exact .inl ⟨rfl, _, h.2⟩
    | n + 4, h => simp at h

theorem chkL_cover {as : List AOp} : ∀ {r : List (Nat × Nat)} {E F A V : Nat}, chkL as anc M r E F A V = true → ∀ j, j < as.length → E.testBit j = true ∨ ∃ k, (k, j) ∈ r ∧ k ≠ 3
  | [], E, F, A, V, h, j, hj => by
    unfold chkL at h
    simp only [Bool.and_eq_true] at h
    have := beq_true h.1
    rw [this]
    exact .inl (full_test hj)
  | (k, i) :: r, E, F, A, V, h, j, hj => by
    obtain ⟨o, _, h | h⟩ := chkL_cons h
    · obtain ⟨_, F', h⟩ := h
      rcases chkL_cover h j hj with h1 | ⟨k', h1, h2⟩
      · exact .inl h1
      · exact .inr ⟨k', List.mem_cons_of_mem _ h1, h2⟩
    · obtain ⟨hk, _, _, F', A', V', h⟩ := h
      rcases chkL_cover h j hj with h1 | ⟨k', h1, h2⟩
      · rcases bit_cases h1 with h1 | rfl
        · exact .inl h1
        · exact .inr ⟨k, List.mem_cons_self, hk⟩
      · exact .inr ⟨k', List.mem_cons_of_mem _ h1, h2⟩

theorem chkL_main {as : List AOp} {i : Nat} {r : List (Nat × Nat)} (h : chkL as anc M ((2, i) :: r) E F A V = true) :
    ∃ o, as[i]? = some o ∧ E.testBit i = false ∧ isDefer o.op = false ∧ M.testBit i = true ∧ (∀ j, V.testBit j = true → F.testBit j = true ∨ A.testBit j = true) ∧ (∀ k j, (k, j) ∈ r → k ≠ 3 → Anc anc j i) ∧ chkL as anc M r (E ||| bitN i) 0 (anc.getD i 0 ||| bitN i) V = true := by
  unfold chkL at h
  cases ho : as[i]? with
  | none => rw [ho] at h; cases h
  | some o =>
    rw [ho] at h
    simp only [Bool.and_eq_true, Bool.not_eq_true'] at h
    obtain ⟨⟨hE, hanc⟩, ⟨⟨⟨hdf, hM⟩, hV⟩, hall⟩, hc⟩ := h
    refine ⟨o, rfl, hE, hdf, hM, fun j hj => (or_test _ _ _).1 (subN_test hV hj), fun k j hm hk => ?_, hc⟩
    have := List.all_eq_true.1 hall (k, j) hm
    simp only [Bool.or_eq_true] at this
    rcases this with h1 | h1
    · exact absurd (beq_true h1) hk
    · exact h1
theorem chkL_nil {as : List AOp} (h : chkL as anc M [] E F A V = true) : (∀ j, j < as.length → E.testBit j = true) ∧ ∀ j, V.testBit j = true → F.testBit j = true ∨ A.testBit j = true := by
  unfold chkL at h
  simp only [Bool.and_eq_true] at h
  have := beq_true h.1
  rw [this]
  exact ⟨fun j hj => full_test hj, fun j hj => (or_test _ _ _).1 (subN_test h.2 hj)⟩

/-! ### A table of what one operation looks at -/
noncomputable def onlyT (t : T) : List Nat → T
  | [] => T.nil
  | n :: r => T.setP (evTmp (pathOf n) t) (pathOf n) (onlyT t r)
theorem onlyT_get (t : T) : ∀ (ns : List Nat) (n : Nat), (n ∈ ns → evTmp (pathOf n) (onlyT t ns) = evTmp (pathOf n) t) ∧ (n ∉ ns → evTmp (pathOf n) (onlyT t ns) = .junk)
  | [], n => ⟨fun h => (by cases h), fun _ => by
      unfold onlyT
      exact nil_get _⟩
  | m :: r, n => by
    obtain ⟨h1, h2⟩ := onlyT_get t r n
    by_cases hnm : n = m
    · subst hnm
      exact ⟨fun _ => evTmp_put n _ _, fun h => absurd List.mem_cons_self h⟩
    · refine ⟨fun h => ?_, fun h => ?_⟩
      · rw [onlyT, evTmp_put_ne hnm]
        exact h1 ((List.mem_cons.1 h).resolve_left hnm)
      · rw [onlyT, evTmp_put_ne hnm]
        exact h2 fun h' => h (List.mem_cons_of_mem _ h')

theorem mem_looks_guard {o : Oper} {j n : Nat} {b : Bool} (hg : o.guard = some (j, b)) (hd : (ops[j]?).bind (·.dst) = some n) : n ∈ looksA (compOper P ops o) := by
  refine List.mem_append_right _ ?_
  rw [compOper_guard, hg]
  show n ∈ (match (some (((ops[j]?).bind (·.dst)).map pathOf, b) : Option (Option (List D4) × Bool)) with | some (some p, _) => [unpath p] | _ => [])
  rw [hd]
  show n ∈ [unpath (pathOf n)]
  rw [show unpath (pathOf n) = n from unpath_pathF _ _ (by omega)]
  simp

section
variable {cl : Cl} {k : KL} {Q : Exit → Act → World → Prop}

/-- What one that may come up looks at is known. -/
theorem Inv.looks (hd : DrawnOk P ops anc M N) (h : Inv base P ops anc M N ρ0 S0 L E F A V idf ρ S w t a) {i : Nat} {o : Oper} (ho : ops[i]? = some o) (hanc : ∀ j, Anc anc i j → L j) (hi : E.testBit i = false ∨ M.testBit i = false) {n : Nat} (hn : n ∈ looksA (compOper P ops o)) : Den ρ (evTmp (pathOf n) t) (a.tmps.getD n undef) := by
  refine h.den n fun j o' ho' hd' hj => ?_
  rcases hd.reads i j o o' n ho ho' hd' hn with h1 | ⟨h1, h2⟩
  · exact hanc j h1
  · by_cases hL : L j
    · exact hL
    · have := h.main j hj hL
      rw [h1] at this
      cases this
theorem Inv.trel (hd : DrawnOk P ops anc M N) (h : Inv base P ops anc M N ρ0 S0 L E F A V idf ρ S w t a) {i : Nat} {o : Oper} (ho : ops[i]? = some o) (hanc : ∀ j, Anc anc i j → L j) : TRel ρ (onlyT t (looksA (compOper P ops o))) a := fun n => by
  by_cases hn : n ∈ looksA (compOper P ops o)
  · rw [(onlyT_get t _ n).1 hn]
    refine h.den n fun j o' ho' hd' hj => ?_
    rcases hd.reads i j o o' n ho ho' hd' hn with h1 | ⟨h1, h2⟩
    · exact hanc j h1
    · by_cases hL : L j
      · exact hL
      · have := h.main j hj hL
        rw [h1] at this
        cases this
  · rw [(onlyT_get t _ n).2 hn]
    exact .junk _
theorem agree_only (x : AOp) (t : T) : Agree x t (onlyT t (looksA x)) := fun n hn => ((onlyT_get t _ n).1 hn).symm

def unl (l : Array Bool) : Nat := l.toList.countP (fun b => !b)
theorem unl_set {l : Array Bool} {i : Nat} (h : l.getD i true = false) : unl (l.setIfInBounds i true) + 1 = unl l := by
  have hi : i < l.size := by
    rcases Nat.lt_or_ge i l.size with h' | h'
    · exact h'
    · simp [Array.getElem?_eq_none h'] at h
  have hv : l[i] = false := by simpa [hi] using h
  unfold unl
  rw [Array.toList_setIfInBounds, List.countP_set (by simpa using hi)]
  have hpos : 0 < l.toList.countP (fun b => !b) := List.countP_pos_iff.2 ⟨false, by rw [← hv]; simp, rfl⟩
  have e1 : (if (!(l.toList[i]'(by simpa using hi))) = true then 1 else 0) = 1 := by simp [hv]
  have e2 : (if (!true) = true then 1 else 0) = 0 := by simp
  rw [e1, e2]
  omega
theorem unl_zero {l : Array Bool} (h : unl l = 0) {j : Nat} (hj : j < l.size) : l.getD j false = true := by
  have h := List.countP_eq_zero.1 h l[j] (by simp)
  have : l[j] = true := by simpa using h
  simp [hj, this]

theorem drawn_go {ro : Option Nat} (hN : NamesOk P) (hcl : ClOK Lg P cl) (hd : DrawnOk P ops anc M N) (hq : Ends base ρ0 S0 k z N (Q .normal)) :
    ∀ (fuel : Nat) (listed : Array Bool) (E F A V : Nat) (idf : Nat → Nat) (res : List (Nat × Nat)) (ρ : Rho) (S : AS) (w : World) (t : T) (a : Act), listed.size = ops.size → unl listed ≤ fuel →
      Inv base P ops anc M N ρ0 S0 (fun j => listed.getD j false = true) E F A V idf ρ S w t a → (res = [] ∨ ∃ p r, res = (2, p) :: r) → runL (compW (ops.toList.map (compOper P ops)) res) cl t S k = some z → chkL (ops.toList.map (compOper P ops)) anc M res E F A V = true →
      wpAnyIn (FW ro) 0 P .any ops Q fuel listed a w := by
  intro fuel
  induction fuel with
  | zero =>
    intro listed E F A V idf res ρ S w t a hsz hu h hb hr hc
    have hall : ∀ j, j < ops.size → listed.getD j false = true := fun j hj => unl_zero (by omega) (by omega)
    have fin : Q .normal a w := by
      rcases hb with rfl | ⟨p, r, rfl⟩
      · refine hq t S ρ a w hr h.le h.keep ⟨h.world, fun n => h.den n fun i o ho _ _ => hall i (Array.getElem?_eq_some_iff.1 ho).1, h.defers, h.size⟩
      · exfalso
        obtain ⟨o, ho, hE, _⟩ := chkL_main hc
        have hp : p < ops.size := by
          have := (List.getElem?_eq_some_iff.1 ho).1
          simpa using this
        have := h.sub p (hall p hp)
        rw [hE] at this
        cases this
    refine ⟨?_, fin⟩
    apply List.filter_eq_nil_iff.2
    intro i hi
    have := hall i (List.mem_range.1 hi)
    have h2 : listed.getD i true = true := by
      have hlt : i < listed.size := by rw [hsz]; exact List.mem_range.1 hi
      simpa [hlt] using this
    rw [h2]
    simp
  | succ fuel ih =>
    intro listed E F A V idf res ρ S w t a hsz hu h hb hr hc
    have fin : (∀ j, j < ops.size → listed.getD j false = true) → Q .normal a w := by
      intro hall
      rcases hb with rfl | ⟨p, r, rfl⟩
      · refine hq t S ρ a w hr h.le h.keep ⟨h.world, fun n => h.den n fun i o ho _ _ => hall i (Array.getElem?_eq_some_iff.1 ho).1, h.defers, h.size⟩
      · exfalso
        obtain ⟨o, ho, hE, _⟩ := chkL_main hc
        have hp : p < ops.size := by
          have := (List.getElem?_eq_some_iff.1 ho).1
          simpa using this
        have := h.sub p (hall p hp)
        rw [hE] at this
        cases this
    refine ⟨fun hnil => fin fun j => ?_, fun i hi => ?_⟩
    · induction j using Nat.strongRecOn with
      | _ j IH =>
        intro hj
        cases hl : listed.getD j false with
        | true => rfl
        | false =>
          exfalso
          have hlt : j < listed.size := by omega
          have hmem : j ∈ Region.ready .any ops listed := by
            refine mem_ready.2 ⟨by simpa [hlt] using hl, ops[j], by simp [hj], fun e he hbd => ?_⟩
            have hon := hd.edges j ops[j] (by simp [hj]) e he hbd
            exact IH e.on hon (by omega)
          rw [hnil] at hmem
          cases hmem
    · obtain ⟨hun, o, ho, hafter⟩ := mem_ready.1 hi
      have hlt : i < listed.size := by
        rcases Nat.lt_or_ge i listed.size with h' | h'
        · exact h'
        · simp [Array.getElem?_eq_none h'] at hun
      have hLi : ¬ (listed.getD i false = true) := by
        intro h'
        simp [hlt] at hun h'
        rw [h'] at hun
        cases hun
      have hanc : ∀ j, Anc anc i j → listed.getD j false = true := fun j hj => by
        obtain ⟨e, he, hbd, h1 | h1⟩ := hd.must i o ho j hj
        · subst h1; exact hafter e he hbd
        · exact h.ancL e.on (hafter e he hbd) j h1
      have hL' : ∀ j, (listed.setIfInBounds i true).getD j false = true ↔ (listed.getD j false = true ∨ j = i) := fun j => by
        by_cases hji : j = i
        · subst hji
          simp [hlt]
        · rw [getD_set_ne false (Ne.symm hji)]
          simp [hji]
      have hLe : (fun j => listed.getD j false = true ∨ j = i) = (fun j => (listed.setIfInBounds i true).getD j false = true) := funext fun j => propext (hL' j).symm
      have hsz' : (listed.setIfInBounds i true).size = ops.size := by simp [hsz]
      have hu' : unl (listed.setIfInBounds i true) ≤ fuel := by have := unl_set hun; omega
      have htr := h.trel hd ho hanc
      have hag := agree_only (compOper P ops o) t
      have hguard : ∀ n, (∃ j b, o.guard = some (j, b) ∧ ((ops[j]?).bind (·.dst)) = some n) → Den ρ (evTmp (pathOf n) t) (a.tmps.getD n undef) := fun n hn => by
        obtain ⟨j, b, hg, hdn⟩ := hn
        have := htr n
        rw [(onlyT_get t _ n).1 (mem_looks_guard hg hdn)] at this
        exact this
      -- is it wanted?
      have hwant : ∀ b, (∀ k, wantC (compOper P ops o).guard t k = k b) → Region.wanted o (yielded ops a.tmps) = b := fun b hw => by
        have h1 := hw (fun x => if x = b then some (AV.pnil, S) else none)
        rw [if_pos rfl] at h1
        rw [compOper_guard] at h1
        have h2 := wantC_some (o := o) (ops := ops) (a := a) rfl hguard h1
        by_cases hq : Region.wanted o (yielded ops a.tmps) = b
        · exact hq
        · rw [if_neg hq] at h2; cases h2
      by_cases hEi : E.testBit i = true
      · -- our run has carried it out
        have hVF : V.testBit i = true → F.testBit i = true := fun hV => by
          have : F.testBit i = true ∨ A.testBit i = true := by
            rcases hb with rfl | ⟨p, r, rfl⟩
            · exact (chkL_nil hc).2 i hV
            · obtain ⟨_, _, _, _, _, h1, _⟩ := chkL_main hc
              exact h1 i hV
          exact this.resolve_right fun hA => hLi (h.inA i hA)
        rcases h.fact i o ho hEi hLi with ⟨hV, hw, hval, v, hh, hnow⟩ | ⟨hw, hh⟩ | ⟨⟨hw, hmk, ob, vf, heq, hh, hid, hobj⟩, hnone, h0⟩
        · obtain ⟨S', hnow⟩ := hnow (hVF hV)
          have hwt := hwant true hw
          unfold wpOpIn
          rw [ho]
          simp only [hwt, if_true]
          have hnow' : opK (compOp P o) (onlyT t (looksA (compOper P ops o))) S (fun v S => some (v, some S)) = some (v, S') := by
            rw [← hnow]; exact (opK_congr _ hag.args _ _).symm
          have hnone : compOp? P o = some (compOp P o) := by
            unfold compOp at hval ⊢
            cases hx : compOp? P o with
            | none => rw [hx] at hval; cases hval
            | some x => rfl
          rcases sound_of (Lg := Lg) hnone with ⟨_, hs⟩ | ⟨hs, _⟩ | ⟨hs, _⟩
          · obtain ⟨v', u, h1, h2, h3⟩ := hs base ρ S a.eval w _ _ _ htr.ev h.world hnow'
            cases h1
            refine value_wp (not_defer hnone (class_call (.inl hval))) h3 ?_
            refine ih _ E F A V idf res ρ S w t _ hsz' hu' ?_ hb hr hc
            rw [← hLe]
            exact h.come ho hEi hanc (fun d => hd.tmps i o d ho) hh ρ.le_refl h.keep h.world h2 (fun _ _ _ _ _ _ _ h => h)
          · rw [hval] at hs; cases hs
          · rw [hval] at hs; cases hs
        · have hwt := hwant false hw
          unfold wpOpIn
          rw [ho]
          simp only [hwt, if_false, Bool.false_eq_true]
          refine ⟨fun _ _ => trivial, ?_⟩
          refine ih _ E F A V idf res ρ S w t _ hsz' hu' ?_ hb hr hc
          rw [← hLe]
          exact h.come ho hEi hanc (fun d => hd.tmps i o d ho) hh ρ.le_refl h.keep h.world (.tup .nil) (fun _ _ _ _ _ _ _ h => h)
        · have hwt := hwant true hw
          unfold wpOpIn
          rw [ho]
          simp only [hwt, if_true]
          have hmk0 : compOp? P o = some (compOp P o) := by
            unfold compOp at hmk ⊢
            cases hx : compOp? P o with
            | none => rw [hx] at hmk; cases hmk
            | some x => rfl
          rcases sound_of (Lg := Lg) hmk0 with ⟨hs, _⟩ | ⟨_, _, hs⟩ | ⟨_, hs, _⟩
          · rw [val_not_mk hs] at hmk; cases hmk
          · have heq' : ∀ S c, opK (compOp P o) (onlyT t (looksA (compOper P ops o))) S c = newK S ob fun b S => c (vf b) S := fun S c => by
              rw [← heq]; exact (opK_congr _ hag.args _ _).symm
            have hrun0 : opK (compOp P o) (onlyT t (looksA (compOper P ops o))) { heap := .nil, next := idf i } (fun v S => some (v, some S)) = some (vf (idf i), some { heap := HT.setK (some ob) .nil (idf i), next := Nat.succ (idf i) }) := by
              rw [heq']
              unfold newK
              rw [forceN_eq]
            obtain ⟨ob', vf', heq2, hmk2⟩ := hs _ _ _ _ hrun0
            -- the same object, the same value
            have hvf : ∀ b, vf b = vf' b := fun b => by
              have h1 := heq' { heap := .nil, next := b } (fun v S => some (v, some S))
              rw [heq2] at h1
              unfold newK at h1
              rw [forceN_eq, forceN_eq] at h1
              have h2 := Option.some.inj h1
              exact (Prod.mk.inj h2).1.symm
            have hob : ob = ob' := by
              have h1 := heq' { heap := .nil, next := 0 } (fun v S => some (v, some S))
              rw [heq2] at h1
              unfold newK at h1
              rw [forceN_eq, forceN_eq] at h1
              have h2 := Option.some.inj h1
              have h3 := Option.some.inj (Prod.mk.inj h2).2
              have h4 := congrArg AS.heap h3
              have h5 := congrArg (fun t => HT.getK t 0) h4
              have e1 : ∀ x : AObj, HT.getK (HT.setK (some x) HT.nil 0) 0 = some x := fun x => rfl
              simp only [e1] at h5
              exact (Option.some.inj h5).symm
            subst hob
            obtain ⟨x, u, uv, w1, hw1, h1, h2, h3⟩ := hmk2 ρ a.eval w htr.ev
            refine value_wp (not_defer hmk0 (class_call (.inr hmk))) h3 ?_
            have hww : WRel base (ρ.add (idf i) (w.heap.size, x)) S (w1.alloc u) := by
              rcases hw1 with rfl | rfl
              · exact h.world.late hid hnone hobj h1
              · exact h.world.drew.late hid hnone hobj h1
            have hle : ρ.le (ρ.add (idf i) (w.heap.size, x)) := Rho.le_add hnone
            refine ih _ E F A V idf res (ρ.add (idf i) (w.heap.size, x)) S (w1.alloc u) t _ hsz' hu' ?_ hb hr hc
            rw [← hLe]
            refine h.come ho hEi hanc (fun d => hd.tmps i o d ho) hh hle ⟨h.keep.1, fun b hb hn => ?_⟩ hww ?_ ?_
            · obtain ⟨q1, q2⟩ := h.keep.2 b hb hn
              refine ⟨?_, q2⟩
              unfold Rho.add
              rw [if_neg (by omega)]
              exact q1
            · rw [hvf]; exact h2 _ _ (Rho.add_same _ _ _)
            · intro j o' ho' hj hL hne hm hn
              unfold Rho.add
              have : idf j ≠ idf i := fun e => hne (h.ids j i o' o ho' ho hj hL hEi hLi hm ⟨hw, hmk, ob, vf, heq, hh, hid, hobj⟩ e)
              rw [if_neg this]
              exact hn
          · rw [hmk] at hs; cases hs
      · -- it is the next one of kind 2
        have hEf : E.testBit i = false := by cases hx : E.testBit i with
          | false => rfl
          | true => exact absurd hx hEi
        have hin : i < (ops.toList.map (compOper P ops)).length := by simp; exact (Array.getElem?_eq_some_iff.1 ho).1
        have hcov := (chkL_cover hc i hin).resolve_left hEi
        rcases hb with rfl | ⟨p, r, rfl⟩
        · obtain ⟨_, hm, _⟩ := hcov
          cases hm
        · obtain ⟨o2, ho2, hE2, hdf, hM2, hVF, hrest, hc'⟩ := chkL_main hc
          have hip : i = p := by
            obtain ⟨k', hm, hk'⟩ := hcov
            rcases List.mem_cons.1 hm with hm | hm
            · exact (Prod.mk.inj hm).2
            · have := h.sub p (hanc p (hrest k' i hm hk'))
              rw [hE2] at this
              cases this
          subst hip
          rw [as_get, ho] at ho2
          cases ho2
          unfold compW at hr
          rw [as_get, ho] at hr
          have hr : wantC (compOper P ops o).guard t (fun b => ifB b (stepC (compOp P o) cl t S fun v S => runL (compW (ops.toList.map (compOper P ops)) r) cl (putT (o.dst.map pathOf) v t) S k) (runL (compW (ops.toList.map (compOper P ops)) r) cl (putT (o.dst.map pathOf) (.tup []) t) S k)) = some z := (lGen_eq _ (compW (ops.toList.map (compOper P ops)) r) _ _ _ _ _).symm.trans hr
          obtain ⟨b, hbz, hw⟩ := wantC_cases hr
          have hwt := hwant b hw
          have next : ∀ v S' ρ' w' u, runL (compW (ops.toList.map (compOper P ops)) r) cl (putT (o.dst.map pathOf) v t) S' k = some z → ρ.le ρ' → Keep ρ ρ' S S' → WRel base ρ' S' w' → Den ρ' v u → wpAnyIn (FW ro) 0 P .any ops Q fuel (listed.setIfInBounds i true) (a.put o.dst u) w' := by
            intro v S' ρ' w' u h1 h2 h3 h4 h5
            have hI := h.mainStep hd ho hEf hanc h2 h3 h4 h5
            rw [hLe] at hI
            obtain ⟨res', E', F', V', idf', S'', t', hI', hr', hc'', hb'⟩ := stage hd r _ _ _ _ _ _ hI h1 hc'
            exact ih _ _ _ _ _ _ res' _ _ _ _ _ hsz' hu' hI' hb' hr' hc''
          unfold wpOpIn
          rw [ho]
          cases b with
          | true =>
            simp only [hwt, if_true]
            have hbz : stepC (compOp P o) cl t S (fun v S => runL (compW (ops.toList.map (compOper P ops)) r) cl (putT (o.dst.map pathOf) v t) S k) = some z := hbz
            exact gen_wp hN hcl htr.ev h.world ((stepC_congr (compOp P o) hag.args _ _).symm.trans hbz) fun v S' ρ' w' u h1 h2 h3 h4 h5 => next v S' ρ' w' u h1 h2 h3 h4 h5
          | false =>
            simp only [hwt, if_false, Bool.false_eq_true]
            exact ⟨fun _ _ => trivial, next (.tup []) S ρ w undef hbz ρ.le_refl (.refl ρ S) h.world (.tup .nil)⟩
end
end Go.Proofs.YtpllompnfhpfmaaGreatDoor.Exe
