/- A part of the machine that reckons a closed run, and of the proof that what it says the given program does. No conditions. -/
import Derived.Test.YtpochibfjpanhaaGreatXr
import Derived.Test.YtpochibfjpanhaaGreatZm
set_option linter.unusedVariables false
set_option linter.unusedSimpArgs false
namespace Go.Proofs.YtpochibfjpanhaaGreat.Exe
open Go

/-! ### The sameness of values -/
noncomputable def toB (o : Option Bool) : Bool := Option.rec false (fun b => b) o
noncomputable def sameV (a : AV) : AV → Bool :=
  AV.rec (motive_1 := fun _ => AV → Bool) (motive_2 := fun _ => List AV → Bool)
    (fun x b => toB (onBool b fun y => some (ifB x y (ifB y false true))))
    (fun k n b => toB (onInt b fun j m => some (ifB (sameKind k j) (eqK n m) false)))
    (fun s b => toB (onStr b fun r => some (strEq s r)))
    (fun b => Nat.beq (nilNo b) 1)
    (fun p q b => toB (onPtr b fun p' q' => some (ifB (Nat.beq p p') (Nat.beq q q') false)))
    (fun b => Nat.beq (nilNo b) 2)
    (fun p q l c o b => toB (onSl b fun p' q' l' c' o' => some (ifB (Nat.beq p p') (ifB (Nat.beq q q') (ifB (Nat.beq l l') (ifB (Nat.beq c c') (ifB o o' (ifB o' false true)) false) false) false) false)))
    (fun b => Nat.beq (nilNo b) 3)
    (fun p b => toB (onMap b fun p' => some (Nat.beq p p')))
    (fun b => Nat.beq (nilNo b) 4)
    (fun f _ _ i1 i2 b => toB (onFn b fun f' a' c' => some (ifB (Nat.beq f f') (ifB (i1 a') (i2 c') false) false)))
    (fun b => Nat.beq (nilNo b) 5)
    (fun t _ i b => toB (onIfc b fun t' v' => some (ifB (Nat.beq t t') (i v') false)))
    (fun _ i b => toB (onAgg b fun cs => some (i cs)))
    (fun l n b => toB (onBytes b fun l' n' => some (ifB (Nat.beq l l') (Nat.beq n n') false)))
    (fun _ i b => toB (onTup b fun cs => some (i cs)))
    (fun _ => false) (fun _ _ => false) (fun _ => false) (fun _ _ _ => false) (fun _ _ => false)
    (fun l => List.rec true (fun _ _ _ => false) l)
    (fun _ _ i is l => List.rec false (fun x r _ => ifB (i x) (is r) false) l) a

/-! ### Code -/
inductive AX where
  | normal | ret | exit (id : Nat)

/-- Who is called: a function; a function that was put off; a loop's round; a function, it may be one without a body; the next entry of a range over a map. -/
inductive CE where
  | fn (g : FuncId) | dfn (g : FuncId) | yl (l : Nat) | xfn (g : FuncId) | nx
abbrev Cl := CE → List AV → AS → K → R
abbrev KX := AX → T → AS → R
abbrev Ag := AC → T → AS → KX → R

/-- Is an operation wanted? -/
noncomputable def wantV (v : AV) (b : Bool) (k : Bool → R) : R :=
  AV.rec (motive_1 := fun _ => (Bool → R) → R) (motive_2 := fun _ => Unit) (fun x k => k (ifB b x (ifB x false true))) (fun _ _ _ => none) (fun _ _ => none) (fun _ => none) (fun _ _ _ => none) (fun _ => none) (fun _ _ _ _ _ _ => none) (fun _ => none) (fun _ _ => none) (fun _ => none) (fun _ _ _ _ _ _ => none) (fun _ => none) (fun _ _ _ _ => none) (fun _ _ _ => none) (fun _ _ _ => none) (fun _ _ k => k false) (fun _ => none) (fun _ _ => none) (fun _ => none) (fun _ _ _ => none) (fun _ _ => none) () (fun _ _ _ _ => ()) v k
noncomputable def wantC (g : Option (Option (List D4) × Bool)) (t : T) (k : Bool → R) : R :=
  Option.rec (k true) (fun p => Option.rec (k false) (fun d => wantV (evTmp d t) p.2 k) p.1) g
/-- What is stored is reckoned first. -/
noncomputable def forceV (v : AV) : (AV → R) → R :=
  AV.rec (motive_1 := fun _ => (AV → R) → R) (motive_2 := fun _ => Unit) (fun x k => k (.bool x)) (fun x y k => k (.int x y)) (fun s k => k (.str s)) (fun k => k .pnil) (fun x y k => k (.ptr x y)) (fun k => k .snil) (fun x y z u v k => k (.sl x y z u v)) (fun k => k .mnil) (fun x k => k (.map x)) (fun k => k .fnil) (fun x y z _ _ k => k (.fn x y z)) (fun k => k .inil) (fun x y _ k => k (.ifc x y)) (fun x _ k => k (.agg x)) (fun x y k => k (.bytes x y)) (fun x _ k => k (.tup x)) (fun k => k .junk) (fun x k => k (.yl x)) (fun k => k .any) (fun x y k => k (.raw x y)) (fun x k => k (.lit x)) () (fun _ _ _ _ => ()) v
theorem forceV_eq (v : AV) (k : AV → R) : forceV v k = k v := by cases v <;> rfl
noncomputable def setTC (p : List D4) (v : AV) (t : T) (k : T → R) : R := forceV v fun v => GS.rec (motive := fun _ => AV → T → (T → R) → R) (fun _ s _ => s) (gsP p) v t k
theorem setTC_eq (p : List D4) (v : AV) (t : T) (k : T → R) : setTC p v t k = k (t.setP v p) := by unfold setTC; rw [forceV_eq]; exact gsP_set v p t k
noncomputable def putT (d : Option (List D4)) (v : AV) (t : T) : T := Option.rec t (fun p => t.setP v p) d
noncomputable def putC (d : Option (List D4)) (v : AV) (t : T) (k : T → R) : R := Option.rec (k t) (fun p => setTC p v t k) d
theorem putC_eq (d : Option (List D4)) (v : AV) (t : T) (k : T → R) : putC d v t k = k (putT d v t) := by
  cases d with
  | none => rfl
  | some p => exact setTC_eq p v t k
noncomputable def argsK (vs : List AV) : Nat → T → T := List.rec (motive := fun _ => Nat → T → T) (fun _ t => t) (fun v _ ih n t => ih (Nat.succ n) (t.setP v (pathOf n))) vs
noncomputable def argsC (vs : List AV) : Nat → T → (T → R) → R := List.rec (motive := fun _ => Nat → T → (T → R) → R) (fun _ t k => k t) (fun v _ ih n t k => setTC (pathOf n) v t fun t => ih (Nat.succ n) t k) vs
theorem argsC_eq : ∀ (vs : List AV) (n : Nat) (t : T) (k : T → R), argsC vs n t k = k (argsK vs n t)
  | [], _, _, _ => rfl
  | v :: vs, n, t, k => by
    show setTC (pathOf n) v t (fun t => argsC vs (Nat.succ n) t k) = k (argsK vs (Nat.succ n) (t.setP v (pathOf n)))
    rw [setTC_eq, argsC_eq vs]

noncomputable def opK (o : AO) : T → AS → K → R :=
  AO.rec (motive := fun _ => T → AS → K → R) kMv kPick kAlloc kBox kBuild kBuildSlice kLoad kStore kNilCheck kBin kEqPlain kUn kToInt kToBytes kToStr kMark kFieldAddr kAtArray kAtSlice kIxArray kIxString kField kLenConst kLenOf kSliceSlice kSliceArray kSliceString kS2ap kExtract
    (fun _ _ _ _ _ => none) (fun _ _ _ _ _ => none) (fun _ _ _ _ _ => none) (fun _ _ _ _ _ _ => none) kAppend kMinmax kMapUpdate kLookup (fun t S c => kMakeMap t S c) kMakeSlice kMakeFunc kDelete kClear kCopy kMakeIface kEqNil kStrOp kEqBool kMRange (fun _ _ _ _ => none) kMEntry (fun _ _ _ => none) o
noncomputable def opC (o : AO) : T → AS → K → R :=
  AO.rec (motive := fun _ => T → AS → K → R) cMv cPick kAlloc kBox kBuild kBuildSlice cLoad cStore cNilCheck cBin kEqPlain kUn cToInt kToBytes kToStr kMark cFieldAddr cAtArray cAtSlice kIxArray kIxString cField kLenConst kLenOf kSliceSlice kSliceArray kSliceString kS2ap cExtract
    (fun _ _ _ _ _ => none) (fun _ _ _ _ _ => none) (fun _ _ _ _ _ => none) (fun _ _ _ _ _ _ => none) kAppend kMinmax kMapUpdate kLookup (fun t S c => kMakeMap t S c) kMakeSlice kMakeFunc kDelete kClear kCopy kMakeIface kEqNil kStrOp kEqBool kMRange (fun _ _ _ _ => none) kMEntry (fun _ _ _ => none) o
theorem opC_eq (o : AO) (t : T) (S : AS) (k : K) : opC o t S k = opK o t S k := by
  cases o <;> first | rfl | exact cBin_eq _ _ _ _ _ _ | skip
  · exact evC_eq _ _ _
  · refine (evC_eq _ _ _).trans ?_
    show onBool _ (fun c => ifB c (evC _ t fun v => k v S) (evC _ t fun v => k v S)) = onBool _ (fun c => ifB c (k _ S) (k _ S))
    simp only [evC_eq]
  · exact evC_eq _ _ _
  · refine (evC_eq _ _ _).trans ((evC_eq _ _ _).trans ?_)
    simp only [putKC_eq]
    rfl
  · exact evC_eq _ _ _
  · exact evC_eq _ _ _
  · exact evC_eq _ _ _
  · refine (evC_eq _ _ _).trans (evC_eq _ _ _)
  · refine (evC_eq _ _ _).trans (evC_eq _ _ _)
  · exact evC_eq _ _ _
  · exact evC_eq _ _ _
noncomputable def plainC (o : AO) (_ : Cl) (t : T) (S : AS) (k : K) : R := opK o t S k
noncomputable def cCall (g : FuncId) (as : List AR) (cl : Cl) (t : T) (S : AS) (k : K) : R := cl (.xfn g) (evs as t) S k
noncomputable def isYl (v : AV) : Bool := Option.rec false (fun _ => true) (onYl v fun _ => some ())
noncomputable def cDyn (g : AR) (as : List AR) (cl : Cl) (t : T) (S : AS) (k : K) : R := ifB (isYl (ev g t)) (onYl (ev g t) fun l => cl (.yl l) (evs as t) S k) (onFn (ev g t) fun g a b => cl (.xfn g) (List.append a (List.append (evs as t) b)) S k)
noncomputable def cInvoke (x : AR) (m : TypeId → Option FuncId) (as : List AR) (cl : Cl) (t : T) (S : AS) (k : K) : R := onIfc (ev x t) fun ty v => onSome (m ty) fun g => cl (.xfn g) (v :: evs as t) S k
noncomputable def cMNext (x : AR) (cl : Cl) (t : T) (S : AS) (k : K) : R := cl .nx [ev x t] S k
noncomputable def stepC (o : AO) : Cl → T → AS → K → R :=
  AO.rec (motive := fun _ => AO → Cl → T → AS → K → R) (fun _ => plainC) (fun _ _ _ => plainC) (fun _ _ _ => plainC) (fun _ _ _ => plainC) (fun _ _ => plainC) (fun _ _ _ _ _ => plainC) (fun _ _ _ => plainC) (fun _ _ _ => plainC) (fun _ => plainC) (fun _ _ _ => plainC) (fun _ _ _ _ => plainC) (fun _ _ => plainC) (fun _ _ => plainC) (fun _ _ => plainC) (fun _ => plainC) (fun _ => plainC) (fun _ _ => plainC) (fun _ _ _ _ => plainC) (fun _ _ _ => plainC) (fun _ _ _ _ _ => plainC) (fun _ _ => plainC) (fun _ _ _ _ => plainC) (fun _ => plainC) (fun _ _ => plainC) (fun _ _ _ _ _ => plainC) (fun _ _ _ _ _ _ => plainC) (fun _ _ _ => plainC) (fun _ _ => plainC) (fun _ _ => plainC) (fun g as _ => cCall g as) (fun g as _ => cDyn g as) (fun _ _ => plainC) (fun x m as _ => cInvoke x m as) (fun _ _ _ _ _ => plainC) (fun _ _ => plainC) (fun _ _ _ _ => plainC) (fun _ _ _ _ _ => plainC) plainC (fun _ _ _ _ _ _ => plainC) (fun _ _ _ => plainC) (fun _ _ _ => plainC) (fun _ _ _ => plainC) (fun _ _ _ => plainC) (fun _ _ => plainC) (fun _ _ _ _ => plainC) (fun _ _ _ => plainC) (fun _ _ _ => plainC) (fun _ => plainC) (fun x _ => cMNext x) (fun _ => plainC) plainC o o

abbrev KL := T → AS → R
abbrev RL := Cl → T → AS → KL → R
noncomputable def lOp (p : List D4) (o : AO) (_ : AL) (r : RL) : RL := fun cl t S k => opC o t S fun v S => setTC p v t fun t => r cl t S k
theorem lOp_eq (p : List D4) (o : AO) (l : AL) (r : RL) (cl : Cl) (t : T) (S : AS) (k : KL) : lOp p o l r cl t S k = opK o t S fun v S => r cl (t.setP v p) S k := by
  unfold lOp; rw [opC_eq]; simp only [setTC_eq]
noncomputable def lGen (o : AOp) (_ : AL) (r : RL) : RL := fun cl t S k =>
  wantC o.guard t fun b => ifB b (stepC o.op cl t S fun v S => putC o.dst v t fun t => r cl t S k) (putC o.dst (.tup []) t fun t => r cl t S k)
theorem lGen_eq (o : AOp) (l : AL) (r : RL) (cl : Cl) (t : T) (S : AS) (k : KL) : lGen o l r cl t S k =
    wantC o.guard t fun b => ifB b (stepC o.op cl t S fun v S => r cl (putT o.dst v t) S k) (r cl (putT o.dst (.tup []) t) S k) := by
  unfold lGen; simp only [putC_eq]
/-- A value as it is now. -/
noncomputable def nowK (o : AO) (t : T) (S : AS) : R := opK o t S fun v S => some (v, some S)
noncomputable def lVal (o : AOp) (_ : AL) (r : RL) : RL := fun cl t S k =>
  wantC o.guard t fun b => ifB b (onSome (nowK o.op t S) fun p => putC o.dst p.1 t fun t => r cl t S k) (putC o.dst (.tup []) t fun t => r cl t S k)
theorem lVal_eq (o : AOp) (l : AL) (r : RL) (cl : Cl) (t : T) (S : AS) (k : KL) : lVal o l r cl t S k =
    wantC o.guard t fun b => ifB b (onSome (nowK o.op t S) fun p => r cl (putT o.dst p.1 t) S k) (r cl (putT o.dst (.tup []) t) S k) := by
  unfold lVal; simp only [putC_eq]
noncomputable def sameD (d : Option (List D4)) (v : AV) (t : T) : Bool := Option.rec true (fun p => sameV v (evTmp p t)) d
noncomputable def lChk (o : AOp) (_ : AL) (r : RL) : RL := fun cl t S k =>
  wantC o.guard t fun b => ifB b (onSome (nowK o.op t S) fun p => ifB (sameD o.dst p.1 t) (r cl t S k) none) (r cl t S k)
/-- A call put off. -/
noncomputable def lDfr (f : AR) (as : List AR) (o : AOp) (_ : AL) (r : RL) : RL := fun cl t S k =>
  wantC o.guard t fun b => ifB b (onFn (ev f t) fun g a b => r cl ((putT o.dst (.tup []) t).push (.fn g (List.append a (List.append (evs as t) b)) [])) S k) (r cl (putT o.dst (.tup []) t) S k)
noncomputable def runL (l : AL) : RL := AL.rec (motive := fun _ => RL) (fun _ t S k => k t S) lOp lGen lVal lChk lDfr l

abbrev RC := Cl → Ag → T → AS → KX → R
noncomputable def aSkip : RC := fun _ _ t S k => k .normal t S
noncomputable def aRegion (l : AL) : RC := fun cl _ t S k => runL l cl t S (k .normal)
noncomputable def aSeq (_ _ : AC) (ra rb : RC) : RC := fun cl ag t S k => ra cl ag t S fun x t S => AX.rec (rb cl ag t S k) (k .ret t S) (fun i => k (.exit i) t S) x
noncomputable def aCond (c : AR) (_ _ : AC) (ra rb : RC) : RC := fun cl ag t S k => onBool (ev c t) fun b => ifB b (ra cl ag t S k) (rb cl ag t S k)
noncomputable def aBlock (id : Nat) (_ : AC) (rb : RC) : RC := fun cl ag t S k => rb cl ag t S fun x t S => AX.rec (k .normal t S) (k .ret t S) (fun i => ifB (Nat.beq i id) (k .normal t S) (k (.exit i) t S)) x
noncomputable def aScope (_ : AC) (rb : RC) : RC := fun cl ag t S k => rb cl ag t S k
noncomputable def aLoop (b : AC) (rb : RC) : RC := fun cl ag t S k => rb cl ag t S fun x t S => AX.rec (ag (.loop b) t S k) (k .ret t S) (fun i => k (.exit i) t S) x
noncomputable def aExit (id : Nat) : RC := fun _ _ t S k => k (.exit id) t S
noncomputable def aRet : RC := fun _ _ t S k => k .ret t S
/-- A loop that is over: how it was left. -/
noncomputable def outK (pe : Option Nat) (t : T) (S : AS) (k : KX) : R := Option.rec (k .normal t S) (fun j => Nat.rec (k .ret t S) (fun i _ => k (.exit i) t S) j) pe
noncomputable def aRange (f : AR) (ps : List (List D4)) (asg c : Code) (n : Nat) : RC := fun cl _ t S k =>
  newK S (.dfr true) fun d S => newK S (.loop 0 none t ps asg c n) fun l S => onFn (ev f t) fun g a b => cl (.fn g) (List.append a (.yl l :: b)) S fun _ S =>
    onLoop S l fun st pe t' ps asg c n => ifB (Nat.beq st 1) none (outK pe (t.push (.map d)) (putK S l (.loop 3 pe t' ps asg c n)) k)
noncomputable def runA (c : AC) : RC := AC.rec (motive := fun _ => RC) aSkip aRegion aSeq aCond aBlock aScope aLoop aExit aRet (fun _ _ _ _ _ => none) aRange c

noncomputable def resK (t : T) (S : AS) (l : List (List D4 × Option (Bool × Nat))) : Option (List AV) :=
  List.rec (motive := fun _ => Option (List AV)) (some []) (fun p _ ih => Option.rec (onSome ih fun r => some (evTmp p.1 t :: r)) (fun q => onSome (kLoad q.1 q.2 (.tmp p.1) t S fun v S => some (v, some S)) fun v => onSome ih fun r => some (v.1 :: r)) p.2) l
noncomputable def oneK (l : List AV) : AV := List.rec (motive := fun _ => AV) (.tup []) (fun v r _ => List.rec (motive := fun _ => AV) v (fun _ _ _ => .tup l) r) l
noncomputable def endK (rs : List (List D4 × Option (Bool × Nat))) (k : K) (t : T) (S : AS) : R := onSome (resK t S rs) fun vs => k (oneK vs) S

noncomputable def fstK (p : Ag × Cl) : Ag := Prod.rec (motive := fun _ => Ag) (fun a _ => a) p
noncomputable def sndK (p : Ag × Cl) : Cl := Prod.rec (motive := fun _ => Cl) (fun _ b => b) p
/-- The calls that were put off; then on. -/
noncomputable def offK (cl : Cl) (l : List AV) : AS → (AS → R) → R :=
  List.rec (motive := fun _ => AS → (AS → R) → R) (fun S k => k S)
    (fun v _ ih S k => ifB (Nat.beq (nilNo v) 13) (onMap v fun b => onDfr S b fun l => ifB l (ih (putK S b (.dfr false)) k) none) (onFn v fun g as _ => cl (.dfn g) as S fun _ S => ih S k)) l
noncomputable def goneK {A : Type} (l : List A) (r : R) : R := List.rec (motive := fun _ => R) r (fun _ _ _ => none) l
noncomputable def roundK (b : AX) (l : Nat) (S : AS) (k : K) : R :=
  onLoop S l fun st _ t ps asg c n => ifB (Nat.beq st 1) (AX.rec (k (.bool true) (putK S l (.loop 0 none t ps asg c n))) (k (.bool false) (putK S l (.loop 2 (some 0) t ps asg c n))) (fun i => k (.bool false) (putK S l (.loop 2 (some (Nat.succ i)) t ps asg c n))) b) none
noncomputable def psK (ps : List (List D4)) : List AV → T → (T → R) → R :=
  List.rec (motive := fun _ => List AV → T → (T → R) → R) (fun as t k => List.rec (motive := fun _ => R) (k t) (fun _ _ _ => none) as) (fun p _ ih as t k => List.rec (motive := fun _ => R) none (fun v r _ => setTC p v t fun t => ih r t k) as) ps
/-- Calls whose answers are known ahead. -/
abbrev Memo := List (FuncId × List AV × AV)
noncomputable def hitK (tab : Memo) (g : FuncId) (as : List AV) (k : AV → R) (miss : R) : R :=
  List.rec (motive := fun _ => R) miss (fun e _ ih => Prod.rec (motive := fun _ => R) (fun f p => ifB (Nat.beq f g) (Prod.rec (motive := fun _ => R) (fun xs v => ifB (sameV (.tup xs) (.tup as)) (k v) ih) p) ih) e) tab
/-- What a run is given: functions without a body and what they do; calls whose answers are known; functions whose ways are brought together behind a call; and a guess of what such a call comes to (it is checked). -/
abbrev XF := List AV → AS → K → R
structure Opt where
  first : Bool
  ext : List (Nat × XF)
  memo : Memo
  mg : List Nat
  guess : Nat → Cl
section
variable (FT : PT AF) (cp : Nat → Code → AC) (tab : Opt)
noncomputable def callFn (again : Ag) (cl : Cl) (g : FuncId) (as : List AV) (S : AS) (k : K) : R :=
  onSome (FT.getK g) fun af => argsC as 0 T.nil fun t => runA af.code cl again t S fun x t S => AX.rec (offK cl t.off S fun S => endK af.results k t S) (offK cl t.off S fun S => endK af.results k t S) (fun _ => none) x
noncomputable def callDfn (again : Ag) (cl : Cl) (g : FuncId) (as : List AV) (S : AS) (k : K) : R :=
  onSome (FT.getK g) fun af => argsC as 0 T.nil fun t => runA af.code cl again t S fun x t S => AX.rec (goneK t.off (endK af.results k t S)) (goneK t.off (endK af.results k t S)) (fun _ => none) x
/-- A round begins behind the assignment. -/
noncomputable def beginK (again : Ag) (cl : Cl) (n : Nat) (c : Code) (l : Nat) (t' : T) (S : AS) (k : K) : R :=
  onLoop S l fun st pe t ps asg c' n' => ifB (Nat.beq st 0) (runA (cp n c) cl again t' (putK S l (.loop 1 pe t ps asg c' n')) fun x _ S => roundK x l S k) none
noncomputable def callYl (again : Ag) (cl : Cl) (l : Nat) (as : List AV) (S : AS) (k : K) : R :=
  onLoop S l fun st _ t ps asg c n => ifB (Nat.beq st 0) (psK ps as t.clean fun t' => runA (cp n asg) cl again t' S fun x t' S => AX.rec (beginK cp again cl n c l t' S k) none (fun _ => none) x) none
noncomputable def extK (l : List (Nat × XF)) (g : Nat) (xs : List AV) (S : AS) (k : K) (miss : R) : R := List.rec (motive := fun _ => R) miss (fun e _ ih => ifB (Nat.beq e.1 g) (e.2 xs S k) ih) l
noncomputable def fnOf (n : Nat) (again : Ag) (cl : Cl) (g : FuncId) (as : List AV) (S : AS) (k : K) : R := hitK tab.memo g as (fun v => k v S) (mergeK tab.mg g (tab.guess n (.fn g) as S) (callFn FT again cl g as S) S k)
noncomputable def callOf (n : Nat) (again : Ag) (cl : Cl) : Cl := fun e => CE.rec (motive := fun _ => List AV → AS → K → R) (fnOf FT tab n again cl) (callDfn FT again cl) (callYl cp again cl) (fun g as S k => extK tab.ext g as S k (fnOf FT tab n again cl g as S k)) (nxK tab.first) e
theorem callFn_eq (again : Ag) (cl : Cl) (g : FuncId) (as : List AV) (S : AS) (k : K) : callFn FT again cl g as S k =
    onSome (FT.getK g) fun af => runA af.code cl again (argsK as 0 T.nil) S fun x t S => AX.rec (offK cl t.off S fun S => endK af.results k t S) (offK cl t.off S fun S => endK af.results k t S) (fun _ => none) x := by
  unfold callFn; simp only [argsC_eq]
theorem callDfn_eq (again : Ag) (cl : Cl) (g : FuncId) (as : List AV) (S : AS) (k : K) : callDfn FT again cl g as S k =
    onSome (FT.getK g) fun af => runA af.code cl again (argsK as 0 T.nil) S fun x t S => AX.rec (goneK t.off (endK af.results k t S)) (goneK t.off (endK af.results k t S)) (fun _ => none) x := by
  unfold callDfn; simp only [argsC_eq]
/-- Both of one fuel. -/
noncomputable def both (n : Nat) : Ag × Cl :=
  Nat.rec (motive := fun _ => Ag × Cl) (fun _ _ _ _ => none, fun _ _ _ _ => none) (fun n ih => (fun c => runA c (sndK ih) (fstK ih), callOf FT cp tab n (fstK ih) (sndK ih))) n
end

noncomputable def tabOf (P : Program) (l : List Func) : Nat → PT AF → PT AF :=
  List.rec (motive := fun _ => Nat → PT AF → PT AF) (fun _ t => t) (fun f _ ih n t => ih (Nat.succ n) (Option.rec t (fun a => t.setK (some a) n) (compFn P f))) l
end Go.Proofs.YtpochibfjpanhaaGreat.Exe
