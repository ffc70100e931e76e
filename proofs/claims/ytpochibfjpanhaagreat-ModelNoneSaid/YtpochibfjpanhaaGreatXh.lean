/- A part of the machine that reckons a closed run, and of the proof that what it says the given program does. No conditions. -/
import Derived.Test.YtpochibfjpanhaaGreatXg
set_option linter.unusedVariables false
set_option linter.unusedSimpArgs false
namespace Go.Proofs.YtpochibfjpanhaaGreat.Exe
open Go

/-! ### Code over temporaries as functions -/
noncomputable def wantF (g : Option (Option (List D4) × Bool)) (t : TC) (k : Bool → R) : R :=
  Option.rec (k true) (fun p => Option.rec (k false) (fun d => getF d t fun v => wantV v p.2 k) p.1) g
theorem wantF_eq (g : Option (Option (List D4) × Bool)) (t : T) (k : Bool → R) : wantF g (enc t) k = wantC g t k := by
  cases g with
  | none => rfl
  | some p =>
    obtain ⟨d, b⟩ := p
    cases d with
    | none => rfl
    | some d => exact getF_eq d t _
noncomputable def putTF (d : Option (List D4)) (v : AV) (t : TC) (k : TC → R) : R := Option.rec (k t) (fun p => setF p v t k) d
theorem putTF_eq (d : Option (List D4)) (v : AV) (t : T) (k : TC → R) : putTF d v (enc t) k = k (enc (putT d v t)) := by
  cases d with
  | none => rfl
  | some p => exact setF_eq p v t k
noncomputable def plainF (o : AO) (_ : Cl) (t : TC) (S : AS) (k : K) : R := opF o t S k
noncomputable def callF (g : FuncId) (l : List AR) (cl : Cl) (t : TC) (S : AS) (k : K) : R := evsF l t fun vs => cl (.xfn g) vs S k
noncomputable def dynF (g : AR) (l : List AR) (cl : Cl) (t : TC) (S : AS) (k : K) : R := evF g t fun v => evsF l t fun vs => ifB (isYl v) (onYl v fun l => cl (.yl l) vs S k) (onFn v fun g a b => cl (.xfn g) (List.append a (List.append vs b)) S k)
noncomputable def invokeF (x : AR) (m : TypeId → Option FuncId) (l : List AR) (cl : Cl) (t : TC) (S : AS) (k : K) : R := evF x t fun v => evsF l t fun vs => onIfc v fun ty v => onSome (m ty) fun g => cl (.xfn g) (v :: vs) S k
noncomputable def fMNext (x : AR) (cl : Cl) (t : TC) (S : AS) (k : K) : R := evF x t fun v => cl .nx [v] S k
noncomputable def stepF (o : AO) : Cl → TC → AS → K → R :=
  AO.rec (motive := fun _ => AO → Cl → TC → AS → K → R) (fun _ => plainF) (fun _ _ _ => plainF) (fun _ _ _ => plainF) (fun _ _ _ => plainF) (fun _ _ => plainF) (fun _ _ _ _ _ => plainF) (fun _ _ _ => plainF) (fun _ _ _ => plainF) (fun _ => plainF) (fun _ _ _ => plainF) (fun _ _ _ _ => plainF) (fun _ _ => plainF) (fun _ _ => plainF) (fun _ _ => plainF) (fun _ => plainF) (fun _ => plainF) (fun _ _ => plainF) (fun _ _ _ _ => plainF) (fun _ _ _ => plainF) (fun _ _ _ _ _ => plainF) (fun _ _ => plainF) (fun _ _ _ _ => plainF) (fun _ => plainF) (fun _ _ => plainF) (fun _ _ _ _ _ => plainF) (fun _ _ _ _ _ _ => plainF) (fun _ _ _ => plainF) (fun _ _ => plainF) (fun _ _ => plainF) (fun g l _ => callF g l) (fun g l _ => dynF g l) (fun _ _ => plainF) (fun x m l _ => invokeF x m l) (fun _ _ _ _ _ => plainF) (fun _ _ => plainF) (fun _ _ _ _ => plainF) (fun _ _ _ _ _ => plainF) plainF (fun _ _ _ _ _ _ => plainF) (fun _ _ _ => plainF) (fun _ _ _ => plainF) (fun _ _ _ => plainF) (fun _ _ _ => plainF) (fun _ _ => plainF) (fun _ _ _ _ => plainF) (fun _ _ _ => plainF) (fun _ _ _ => plainF) (fun _ => plainF) (fun x _ => fMNext x) (fun _ => plainF) plainF o o
theorem stepF_plain {o : AO} (h : isCall o = false) (cl : Cl) (t : TC) (S : AS) (k : K) : stepF o cl t S k = opF o t S k := by
  cases o <;> first | rfl | cases h
theorem stepC_op {o : AO} (h : isCall o = false) (cl : Cl) (t : T) (S : AS) (k : K) : stepC o cl t S k = opK o t S k := by
  cases o <;> first | rfl | cases h
theorem stepF_eq (o : AO) (cl : Cl) (t : T) (S : AS) (k : K) : stepF o cl (enc t) S k = stepC o cl t S k := by
  cases hc : isCall o with
  | false => rw [stepF_plain hc, stepC_op hc, opF_eq]
  | true =>
    cases o <;> first | (cases hc; done) | skip
    case call => exact evsF_eq _ _ _
    case dyn => exact (evF_eq _ _ _).trans (evsF_eq _ _ _)
    case defer f l =>
      show opF (.defer f l) (enc t) S k = opK (.defer f l) t S k
      exact opF_eq _ _ _ _
    case invoke => exact (evF_eq _ _ _).trans (evsF_eq _ _ _)
    case mnext => exact evF_eq _ _ _

abbrev KLF := TC → AS → R
abbrev RLF := Cl → TC → AS → KLF → R
noncomputable def fOp (p : List D4) (o : AO) (_ : AL) (r : RLF) : RLF := fun cl t S k => opF o t S fun v S => setF p v t fun t => r cl t S k
noncomputable def fGen (o : AOp) (_ : AL) (r : RLF) : RLF := fun cl t S k =>
  wantF o.guard t fun b => ifB b (stepF o.op cl t S fun v S => putTF o.dst v t fun t => r cl t S k) (putTF o.dst (.tup []) t fun t => r cl t S k)
noncomputable def fVal (o : AOp) (_ : AL) (r : RLF) : RLF := fun cl t S k =>
  wantF o.guard t fun b => ifB b (opF o.op t S fun v _ => putTF o.dst v t fun t => r cl t S k) (putTF o.dst (.tup []) t fun t => r cl t S k)
noncomputable def sameDF (d : Option (List D4)) (v : AV) (t : TC) (k : Bool → R) : R := Option.rec (k true) (fun p => getF p t fun u => k (sameV v u)) d
noncomputable def fChk (o : AOp) (_ : AL) (r : RLF) : RLF := fun cl t S k =>
  wantF o.guard t fun b => ifB b (opF o.op t S fun v _ => sameDF o.dst v t fun e => ifB e (r cl t S k) none) (r cl t S k)
noncomputable def fDfr (f : AR) (l : List AR) (o : AOp) (_ : AL) (r : RLF) : RLF := fun cl t S k =>
  wantF o.guard t fun b => ifB b (evF f t fun v => evsF l t fun vs => onFn v fun g a b => putTF o.dst (.tup []) t fun t => r cl (pushF (.fn g (List.append a (List.append vs b)) []) t) S k) (putTF o.dst (.tup []) t fun t => r cl t S k)
noncomputable def runLF (l : AL) : RLF := AL.rec (motive := fun _ => RLF) (fun _ t S k => k t S) fOp fGen fVal fChk fDfr l
theorem sameDF_eq (d : Option (List D4)) (v : AV) (t : T) (k : Bool → R) : sameDF d v (enc t) k = k (sameD d v t) := by
  cases d with
  | none => rfl
  | some p => exact getF_eq p t _
theorem runLF_eq : ∀ (l : AL) (cl : Cl) (t : T) (S : AS) (k : KLF), runLF l cl (enc t) S k = runL l cl t S fun t S => k (enc t) S
  | .nil, _, _, _, _ => rfl
  | .op p o r, cl, t, S, k => by
    refine Eq.trans ?_ (lOp_eq p o r _ cl t S _).symm
    show opF o (enc t) S (fun v S => setF p v (enc t) fun t => runLF r cl t S k) = _
    rw [opF_eq]
    simp only [setF_eq, runLF_eq r]
    rfl
  | .gen o r, cl, t, S, k => by
    refine Eq.trans ?_ (lGen_eq o r _ cl t S _).symm
    show wantF o.guard (enc t) _ = _
    rw [wantF_eq]
    simp only [stepF_eq, putTF_eq]
    show wantC o.guard t (fun b => ifB b (stepC o.op cl t S fun v S => runLF r cl (enc (putT o.dst v t)) S k) (runLF r cl (enc (putT o.dst (.tup []) t)) S k)) = _
    simp only [runLF_eq r]
    rfl
  | .val o r, cl, t, S, k => by
    refine Eq.trans ?_ (lVal_eq o r _ cl t S _).symm
    show wantF o.guard (enc t) _ = _
    rw [wantF_eq]
    simp only [opF_eq, putTF_eq, nowK_some]
    show wantC o.guard t (fun b => ifB b (opK o.op t S fun v _ => runLF r cl (enc (putT o.dst v t)) S k) (runLF r cl (enc (putT o.dst (.tup []) t)) S k)) = _
    simp only [runLF_eq r]
    rfl
  | .chk o r, cl, t, S, k => by
    show wantF o.guard (enc t) _ = wantC o.guard t fun b => ifB b (onSome (nowK o.op t S) fun p => ifB (sameD o.dst p.1 t) (runL r cl t S _) none) (runL r cl t S _)
    rw [wantF_eq]
    simp only [opF_eq, sameDF_eq, nowK_some]
    show wantC o.guard t (fun b => ifB b (opK o.op t S fun v _ => ifB (sameD o.dst v t) (runLF r cl (enc t) S k) none) (runLF r cl (enc t) S k)) = _
    simp only [runLF_eq r]
  | .dfr f l o r, cl, t, S, k => by
    show wantF o.guard (enc t) _ = wantC o.guard t fun b => ifB b (onFn (ev f t) fun g a b => runL r cl ((putT o.dst (.tup []) t).push (.fn g (List.append a (List.append (evs l t) b)) [])) S _) (runL r cl (putT o.dst (.tup []) t) S _)
    rw [wantF_eq]
    simp only [evF_eq, evsF_eq, putTF_eq, pushF_eq]
    show wantC o.guard t (fun b => ifB b (onFn (ev f t) fun g a b => runLF r cl (enc ((putT o.dst (.tup []) t).push (.fn g (List.append a (List.append (evs l t) b)) []))) S k) (runLF r cl (enc (putT o.dst (.tup []) t)) S k)) = _
    simp only [runLF_eq r]

abbrev KXF := AX → TC → AS → R
abbrev AgF := AC → TC → AS → KXF → R
abbrev RCF := Cl → AgF → TC → AS → KXF → R
noncomputable def fSkip : RCF := fun _ _ t S k => k .normal t S
noncomputable def fRegion (l : AL) : RCF := fun cl _ t S k => runLF l cl t S (k .normal)
noncomputable def fSeq (_ _ : AC) (ra rb : RCF) : RCF := fun cl ag t S k => ra cl ag t S fun x t S => AX.rec (rb cl ag t S k) (k .ret t S) (fun i => k (.exit i) t S) x
noncomputable def fCond (c : AR) (_ _ : AC) (ra rb : RCF) : RCF := fun cl ag t S k => evF c t fun v => onBool v fun b => ifB b (ra cl ag t S k) (rb cl ag t S k)
noncomputable def fBlock (id : Nat) (_ : AC) (rb : RCF) : RCF := fun cl ag t S k => rb cl ag t S fun x t S => AX.rec (k .normal t S) (k .ret t S) (fun i => ifB (Nat.beq i id) (k .normal t S) (k (.exit i) t S)) x
noncomputable def fScope (_ : AC) (rb : RCF) : RCF := fun cl ag t S k => rb cl ag t S k
noncomputable def fLoop (b : AC) (rb : RCF) : RCF := fun cl ag t S k => rb cl ag t S fun x t S => AX.rec (ag (.loop b) t S k) (k .ret t S) (fun i => k (.exit i) t S) x
noncomputable def fExit (id : Nat) : RCF := fun _ _ t S k => k (.exit id) t S
noncomputable def fRet : RCF := fun _ _ t S k => k .ret t S
noncomputable def outF (pe : Option Nat) (t : TC) (S : AS) (k : KXF) : R := Option.rec (k .normal t S) (fun j => Nat.rec (k .ret t S) (fun i _ => k (.exit i) t S) j) pe
noncomputable def fRange (f : AR) (ps : List (List D4)) (asg c : Code) (n : Nat) : RCF := fun cl _ t S k =>
  dec t fun t0 => newF S (.dfr true) fun d S => newF S (.loop 0 none t0 ps asg c n) fun l S => evF f t fun v => onFn v fun g a b => cl (.fn g) (List.append a (.yl l :: b)) S fun _ S =>
    onLoop S l fun st pe t' ps asg c n => ifB (Nat.beq st 1) none (outF pe (pushF (.map d) t) (putK S l (.loop 3 pe t' ps asg c n)) k)
noncomputable def runAF (c : AC) : RCF := AC.rec (motive := fun _ => RCF) fSkip fRegion fSeq fCond fBlock fScope fLoop fExit fRet (fun _ _ _ _ _ => none) fRange c
theorem outF_eq (pe : Option Nat) (t : T) (S : AS) (k : KXF) : outF pe (enc t) S k = outK pe t S fun x t S => k x (enc t) S := by
  match pe with
  | none => rfl
  | some 0 => rfl
  | some (_ + 1) => rfl
def AgEq (ag : Ag) (agF : AgF) : Prop := ∀ c t S k, agF c (enc t) S k = ag c t S fun x t S => k x (enc t) S
theorem runAF_eq {ag : Ag} {agF : AgF} (h : AgEq ag agF) (cl : Cl) : ∀ (c : AC) (t : T) (S : AS) (k : KXF), runAF c cl agF (enc t) S k = runA c cl ag t S fun x t S => k x (enc t) S
  | .skip, _, _, _ => rfl
  | .region l, t, S, k => runLF_eq l cl t S _
  | .seq a b, t, S, k => by
    show runAF a cl agF (enc t) S _ = runA a cl ag t S _
    rw [runAF_eq h cl a]
    congr 1
    funext x t S
    cases x with
    | normal => exact runAF_eq h cl b t S k
    | _ => rfl
  | .cond c a b, t, S, k => by
    show evF c (enc t) _ = onBool (ev c t) fun x => ifB x (runA a cl ag t S _) (runA b cl ag t S _)
    rw [evF_eq]
    show onBool (ev c t) (fun x => ifB x (runAF a cl agF (enc t) S k) (runAF b cl agF (enc t) S k)) = _
    simp only [runAF_eq h cl a, runAF_eq h cl b]
  | .block id b, t, S, k => runAF_eq h cl b t S _
  | .scope b, t, S, k => runAF_eq h cl b t S k
  | .loop b, t, S, k => by
    show runAF b cl agF (enc t) S _ = runA b cl ag t S _
    rw [runAF_eq h cl b]
    congr 1
    funext x t S
    cases x with
    | normal => exact h _ _ _ _
    | _ => rfl
  | .exit _, _, _, _ => rfl
  | .ret, _, _, _ => rfl
  | .bad, _, _, _ => rfl
  | .range f ps asg c n, t, S, k => by
    show fRange f ps asg c n cl agF (enc t) S k = aRange f ps asg c n cl ag t S fun x t S => k x (enc t) S
    unfold fRange aRange
    rw [dec_eq]
    simp only [newF_eq, evF_eq, pushF_eq, outF_eq]

/-! ### Calls -/
noncomputable def argsF (vs : List AV) : Nat → TC → (TC → R) → R := List.rec (motive := fun _ => Nat → TC → (TC → R) → R) (fun _ t k => k t) (fun v _ ih n t k => setF (pathOf n) v t fun t => ih (Nat.succ n) t k) vs
theorem argsF_eq : ∀ (vs : List AV) (n : Nat) (t : T) (k : TC → R), argsF vs n (enc t) k = k (enc (argsK vs n t))
  | [], _, _, _ => rfl
  | v :: vs, n, t, k => by
    show setF (pathOf n) v (enc t) (fun t => argsF vs (Nat.succ n) t k) = k (enc (argsK vs (Nat.succ n) (t.setP v (pathOf n))))
    rw [setF_eq, argsF_eq vs]
noncomputable def resF (l : List (List D4 × Option (Bool × Nat))) (t : TC) (S : AS) : (List AV → R) → R :=
  List.rec (motive := fun _ => (List AV → R) → R) (fun k => k []) (fun p _ ih k => Option.rec (getF p.1 t fun v => ih fun r => k (v :: r)) (fun q => fLoad q.1 q.2 (.tmp p.1) t S fun v _ => ih fun r => k (v :: r)) p.2) l
theorem resF_eq : ∀ (l : List (List D4 × Option (Bool × Nat))) (t : T) (S : AS) (k : List AV → R), resF l (enc t) S k = onSome (resK t S l) k
  | [], _, _, _ => rfl
  | (p, none) :: l, t, S, k => by
    show getF p (enc t) (fun v => resF l (enc t) S fun r => k (v :: r)) = onSome (onSome (resK t S l) fun r => some (evTmp p t :: r)) k
    rw [getF_eq, resF_eq l]
    cases resK t S l <;> rfl
  | (p, some q) :: l, t, S, k => by
    show fLoad q.1 q.2 (.tmp p) (enc t) S (fun v _ => resF l (enc t) S fun r => k (v :: r)) = onSome (onSome (kLoad q.1 q.2 (.tmp p) t S fun v S => some (v, some S)) fun v => onSome (resK t S l) fun r => some (v.1 :: r)) k
    have e1 := opF_eq (.load q.1 q.2 (.tmp p)) t S (fun v _ => resF l (enc t) S fun r => k (v :: r))
    refine (show fLoad q.1 q.2 (.tmp p) (enc t) S _ = kLoad q.1 q.2 (.tmp p) t S _ from e1).trans ?_
    have e2 := opK_nt (.load q.1 q.2 (.tmp p)) t S
    have e3 : ∀ f : AV × Option AS → R, onSome (kLoad q.1 q.2 (.tmp p) t S fun v S => some (v, some S)) f = kLoad q.1 q.2 (.tmp p) t S fun v S => f (v, some S) := e2
    have e4 := e3 fun v => onSome (resK t S l) fun r => k (v.1 :: r)
    simp only [resF_eq l]
    refine e4.symm.trans ?_
    cases kLoad q.1 q.2 (.tmp p) t S fun v S => some (v, some S) with
    | none => rfl
    | some v => show onSome (resK t S l) (fun r => k (v.1 :: r)) = onSome (onSome (resK t S l) fun r => some (v.1 :: r)) k; cases resK t S l <;> rfl
noncomputable def endF (rs : List (List D4 × Option (Bool × Nat))) (k : K) (t : TC) (S : AS) : R := resF rs t S fun vs => k (oneK vs) S
theorem endF_eq (rs : List (List D4 × Option (Bool × Nat))) (k : K) (t : T) (S : AS) : endF rs k (enc t) S = endK rs k t S := resF_eq rs t S _
noncomputable def nilF : TC := enc T.nil
noncomputable def psF (ps : List (List D4)) : List AV → TC → (TC → R) → R :=
  List.rec (motive := fun _ => List AV → TC → (TC → R) → R) (fun l t k => List.rec (motive := fun _ => R) (k t) (fun _ _ _ => none) l) (fun p _ ih l t k => List.rec (motive := fun _ => R) none (fun v r _ => setF p v t fun t => ih r t k) l) ps
theorem psF_eq : ∀ (ps : List (List D4)) (l : List AV) (t : T) (k : TC → R), psF ps l (enc t) k = psK ps l t fun t => k (enc t)
  | [], [], _, _ => rfl
  | [], _ :: _, _, _ => rfl
  | _ :: _, [], _, _ => rfl
  | p :: ps, v :: l, t, k => by
    show setF p v (enc t) (fun t => psF ps l t k) = setTC p v t fun t => psK ps l t fun t => k (enc t)
    rw [setF_eq, setTC_eq, psF_eq ps]
section
variable (FT : PT AF) (cp : Nat → Code → AC) (tab : Opt)
noncomputable def fCallFn (again : AgF) (cl : Cl) (g : FuncId) (l : List AV) (S : AS) (k : K) : R :=
  onSome (FT.getK g) fun af => argsF l 0 nilF fun t => runAF af.code cl again t S fun x t S => AX.rec (offF t fun d => offK cl d S fun S => endF af.results k t S) (offF t fun d => offK cl d S fun S => endF af.results k t S) (fun _ => none) x
noncomputable def fCallDfn (again : AgF) (cl : Cl) (g : FuncId) (l : List AV) (S : AS) (k : K) : R :=
  onSome (FT.getK g) fun af => argsF l 0 nilF fun t => runAF af.code cl again t S fun x t S => AX.rec (offF t fun d => goneK d (endF af.results k t S)) (offF t fun d => goneK d (endF af.results k t S)) (fun _ => none) x
noncomputable def fBegin (again : AgF) (cl : Cl) (n : Nat) (c : Code) (l : Nat) (t' : TC) (S : AS) (k : K) : R :=
  onLoop S l fun st pe t ps asg c' n' => ifB (Nat.beq st 0) (runAF (cp n c) cl again t' (putK S l (.loop 1 pe t ps asg c' n')) fun x _ S => roundK x l S k) none
noncomputable def fCallYl (again : AgF) (cl : Cl) (l : Nat) (xs : List AV) (S : AS) (k : K) : R :=
  onLoop S l fun st _ t ps asg c n => ifB (Nat.beq st 0) (psF ps xs (enc t.clean) fun t' => runAF (cp n asg) cl again t' S fun x t' S => AX.rec (fBegin cp again cl n c l t' S k) none (fun _ => none) x) none
noncomputable def fFnOf (n : Nat) (again : AgF) (cl : Cl) (g : FuncId) (xs : List AV) (S : AS) (k : K) : R := hitK tab.memo g xs (fun v => k v S) (mergeK tab.mg g (tab.guess n (.fn g) xs S) (fCallFn FT again cl g xs S) S k)
noncomputable def fCallOf (n : Nat) (again : AgF) (cl : Cl) : Cl := fun e => CE.rec (motive := fun _ => List AV → AS → K → R) (fFnOf FT tab n again cl) (fCallDfn FT again cl) (fCallYl cp again cl) (fun g xs S k => extK tab.ext g xs S k (fFnOf FT tab n again cl g xs S k)) (nxK tab.first) e
theorem fCallOf_eq {ag : Ag} {agF : AgF} (h : AgEq ag agF) (cl : Cl) (n : Nat) : fCallOf FT cp tab n agF cl = callOf FT cp tab n ag cl := by
  have hfin : ∀ (af : AF) (k : K), (fun (x : AX) (t : T) (S : AS) => (AX.rec (offF (enc t) fun d => offK cl d S fun S => endF af.results k (enc t) S) (offF (enc t) fun d => offK cl d S fun S => endF af.results k (enc t) S) (fun _ => none) x : R))
      = fun x t S => AX.rec (offK cl t.off S fun S => endK af.results k t S) (offK cl t.off S fun S => endK af.results k t S) (fun _ => none) x := fun af k => by
    funext x t S
    simp only [offF_eq, endF_eq]
  have hgone : ∀ (af : AF) (k : K), (fun (x : AX) (t : T) (S : AS) => (AX.rec (offF (enc t) fun d => goneK d (endF af.results k (enc t) S)) (offF (enc t) fun d => goneK d (endF af.results k (enc t) S)) (fun _ => none) x : R))
      = fun x t S => AX.rec (goneK t.off (endK af.results k t S)) (goneK t.off (endK af.results k t S)) (fun _ => none) x := fun af k => by
    funext x t S
    simp only [offF_eq, endF_eq]
  have hfn : ∀ (g : FuncId) (xs : List AV) (S : AS) (k : K), fFnOf FT tab n agF cl g xs S k = fnOf FT tab n ag cl g xs S k := fun g xs S k => by
    have e1 : fCallFn FT agF cl g xs S = callFn FT ag cl g xs S := by
      funext k
      rw [callFn_eq]
      unfold fCallFn nilF
      simp only [argsF_eq, runAF_eq h, hfin]
    unfold fFnOf fnOf
    rw [e1]
  funext e xs S k
  cases e with
  | fn g => exact hfn g xs S k
  | xfn g =>
    show extK tab.ext g xs S k (fFnOf FT tab n agF cl g xs S k) = extK tab.ext g xs S k (fnOf FT tab n ag cl g xs S k)
    rw [hfn]
  | nx => rfl
  | dfn g =>
    show fCallDfn FT agF cl g xs S k = callDfn FT ag cl g xs S k
    rw [callDfn_eq]
    unfold fCallDfn nilF
    simp only [argsF_eq, runAF_eq h, hgone]
  | yl l =>
    show fCallYl cp agF cl l xs S k = callYl cp ag cl l xs S k
    unfold fCallYl callYl fBegin beginK
    simp only [psF_eq, runAF_eq h]
noncomputable def fstF (p : AgF × Cl) : AgF := Prod.rec (motive := fun _ => AgF) (fun a _ => a) p
noncomputable def sndF (p : AgF × Cl) : Cl := Prod.rec (motive := fun _ => Cl) (fun _ b => b) p
/-- Both of one fuel: what the kernel runs. -/
noncomputable def bothF (n : Nat) : AgF × Cl :=
  Nat.rec (motive := fun _ => AgF × Cl) (fun _ _ _ _ => none, fun _ _ _ _ => none) (fun n ih => (fun c => runAF c (sndF ih) (fstF ih), fCallOf FT cp tab n (fstF ih) (sndF ih))) n
theorem bothF_eq : ∀ n, AgEq (both FT cp tab n).1 (bothF FT cp tab n).1 ∧ (bothF FT cp tab n).2 = (both FT cp tab n).2
  | 0 => ⟨fun _ _ _ _ => rfl, rfl⟩
  | n + 1 => by
    obtain ⟨h1, h2⟩ := bothF_eq n
    refine ⟨fun c t S k => ?_, ?_⟩
    · show runAF c (bothF FT cp tab n).2 (bothF FT cp tab n).1 (enc t) S k = runA c (both FT cp tab n).2 (both FT cp tab n).1 t S _
      rw [h2]
      exact runAF_eq h1 _ c t S k
    · show fCallOf FT cp tab n (bothF FT cp tab n).1 (bothF FT cp tab n).2 = callOf FT cp tab n (both FT cp tab n).1 (both FT cp tab n).2
      rw [h2]
      exact fCallOf_eq FT cp tab h1 _ n
theorem sndF_eq (n : Nat) : sndF (bothF FT cp tab n) = sndK (both FT cp tab n) := (bothF_eq FT cp tab n).2
end
end Go.Proofs.YtpochibfjpanhaaGreat.Exe
