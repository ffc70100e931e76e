/- A part of the machine that reckons a closed run, and of the proof that what it says the given program does. No conditions. -/
import Derived.Test.YtpochibfjpanhaaGreatYh
import Derived.OrdersIn
import Derived.LoopNIn
import Derived.Scope
import Derived.RangeFuncLeaves
set_option linter.unusedVariables false
set_option linter.unusedSimpArgs false
namespace Go.Proofs.YtpochibfjpanhaaGreat.Exe
open Go
variable {base w : World} {P : Program} {ρ : Rho} {S : AS} {t : T} {o : Oper} {c : K} {z : AV × Option AS} {a : Act}

/-! ### Calls, as hypotheses -/
/-- A fence that lets all in; 'ro': of a round. -/
def FW (ro : Option Nat) : Fence := { Fence.wide with round := ro }
/-- What a call must show. -/
def CEOK (P : Program) (ρ : Rho) : CE → List Value → World → (Ending → World → Prop) → Prop
  | .fn g, us, w, R => CallsIn (FW none) 0 P g us.toArray w R ∧ ∃ fn, P.funcs[g]? = some fn ∧ fn.body.isNone = false
  | .dfn g, us, w, R => (∀ u, CallsDIn (FW none) 0 P g us.toArray u w fun e u' w' => u' = u ∧ R e w') ∧ ∃ fn, P.funcs[g]? = some fn ∧ fn.body.isNone = false
  | .xfn g, us, w, R => (CallsIn (FW none) 0 P g us.toArray w R ∧ ∃ fn, P.funcs[g]? = some fn ∧ fn.body.isNone = false) ∨ ∃ u w', (callFunc g us.toArray).run P w = .ok (.value u) w' ∧ R (.returned u) w'
  | .nx, us, w, R => ∃ u w', (∀ ty, (Instr.next (us.headD undef) false ty).run P w = .ok u w') ∧ R (.returned u) w'
  | .yl l, us, w, R => ∀ r x, ρ l = some (r, x) → ∃ f tmps a b, (Instr.yield r us.toArray).run P w = .ok (.round r f tmps a b) w ∧ RoundIn (FW none) 0 P r f tmps a b w R
def ClOK (P : Program) (cl : Cl) : Prop :=
  ∀ (base : World) (ρ : Rho) (S : AS) (w : World) (e : CE) (args : List AV) (us : List Value) (k : K) (z : AV × Option AS) (R : Ending → World → Prop), WRel base ρ S w → DenL ρ args us → cl e args S k = some z →
    (∀ v S' ρ' w' u, k v S' = some z → ρ.le ρ' → Keep ρ ρ' S S' → WRel base ρ' S' w' → Den ρ' v u → R (.returned u) w') →
    CEOK P ρ e us w R

/-- The calls that were put off. -/
inductive DfRel (ρ : Rho) : List AV → List Deferred → Prop where
  | nil : DfRel ρ [] []
  | fn {g : FuncId} {as l : List AV} {us : List Value} {ds : List Deferred} {dargs cap : Array Value} : DenL ρ as us → dargs ++ cap = us.toArray → DfRel ρ l ds → DfRel ρ (.fn g as [] :: l) ({ target := .fn (.func g) cap, args := dargs } :: ds)
  | mark {b r x : Nat} {l : List AV} {ds : List Deferred} : ρ b = some (r, x) → DfRel ρ l ds → DfRel ρ (.map b :: l) ({ target := .collected r, args := #[] } :: ds)
theorem DfRel.mono {ρ σ : Rho} (h : ρ.le σ) : ∀ {l : List AV} {ds : List Deferred}, DfRel ρ l ds → DfRel σ l ds
  | _, _, .nil => .nil
  | _, _, .fn a b c => .fn (a.mono h) b (c.mono h)
  | _, _, .mark a b => .mark (h _ _ a) (b.mono h)

structure RelA (base : World) (ρ : Rho) (S : AS) (w : World) (t : T) (a : Act) (N : Nat) : Prop where
  world : WRel base ρ S w
  tmps : TRel ρ t a
  defers : DfRel ρ t.off a.defers
  size : a.tmps.size = N
theorem off_putT (d : Option (List D4)) (v : AV) (t : T) : (putT d v t).off = t.off := by
  cases d with
  | none => rfl
  | some p => exact off_setP v p t

/-! ### Is it wanted? -/
theorem wantV_some {v : AV} {b : Bool} {k : Bool → R} (h : wantV v b k = some z) : (∃ x, v = .bool x ∧ k (x == b) = some z) ∨ (∃ vs, v = .tup vs ∧ k false = some z) := by
  cases v <;> first | (cases h; done) | skip
  · rename_i x
    refine .inl ⟨x, rfl, ?_⟩
    have h : k (ifB b x (ifB x false true)) = some z := h
    rw [← h]
    cases b <;> cases x <;> rfl
  · exact .inr ⟨_, rfl, h⟩

theorem wantC_some {ops : Array Oper} {g : Option (Nat × Bool)} {k : Bool → R} (hg : o.guard = g) (ht : ∀ n, (∃ j b, g = some (j, b) ∧ ((ops[j]?).bind (·.dst)) = some n) → Den ρ (evTmp (pathOf n) t) (a.tmps.getD n undef))
    (h : wantC (g.map fun (j, b) => (((ops[j]?).bind (·.dst)).map pathOf, b)) t k = some z) : k (Region.wanted o (yielded ops a.tmps)) = some z := by
  unfold Region.wanted
  cases g with
  | none => rw [hg]; exact h
  | some p =>
    obtain ⟨j, b⟩ := p
    rw [hg]
    show k (yielded ops a.tmps j == some b) = some z
    cases hd : (ops[j]?).bind (·.dst) with
    | none =>
      have h : wantC (some (((ops[j]?).bind (·.dst)).map pathOf, b)) t k = some z := h
      rw [hd] at h
      have hy : yielded ops a.tmps j = none := by unfold yielded; rw [hd]; rfl
      rw [hy]
      exact h
    | some n =>
      have h : wantC (some (((ops[j]?).bind (·.dst)).map pathOf, b)) t k = some z := h
      rw [hd] at h
      have h : wantV (evTmp (pathOf n) t) b k = some z := h
      have hden := ht n ⟨j, b, rfl, hd⟩
      rcases wantV_some h with ⟨x, hv, h⟩ | ⟨vs, hv, h⟩
      · rw [hv] at hden
        generalize hu : a.tmps.getD n undef = u at hden
        cases hden
        have hy : yielded ops a.tmps j = some x := by
          unfold yielded
          rw [hd]
          rw [Array.getD_eq_getD_getElem?] at hu
          cases h' : a.tmps[n]? with
          | none => rw [h'] at hu; cases hu
          | some y => rw [h'] at hu; have : y = .bool x := hu; subst this; simp [h']
        rw [hy, ← h]
        rfl
      · rw [hv] at hden
        generalize hu : a.tmps.getD n undef = u at hden
        cases hden with
        | @tup _ us hl =>
        have hy : yielded ops a.tmps j = none := by
          unfold yielded
          rw [hd]
          rw [Array.getD_eq_getD_getElem?] at hu
          cases h' : a.tmps[n]? with
          | none => simp [h']
          | some y => rw [h'] at hu; have : y = .tuple us.toArray := hu; subst this; simp [h']
        rw [hy]
        exact h

theorem compOper_guard (ops : Array Oper) (o : Oper) : (compOper P ops o).guard = o.guard.map fun (j, b) => (((ops[j]?).bind (·.dst)).map pathOf, b) := rfl

/-! ### One operation carried out -/
theorem putT_rel (h : TRel ρ t a) {v : AV} {u : Value} (hv : Den ρ v u) (d : Option Nat) (hd : ∀ n, d = some n → n < a.tmps.size) : TRel ρ (putT (d.map pathOf) v t) (a.put d u) := by
  cases d with
  | none => exact h
  | some n => exact h.put hv n (hd n rfl)
theorem put_size (a : Act) (d : Option Nat) (u : Value) : (a.put d u).tmps.size = a.tmps.size := by
  cases d with
  | none => rfl
  | some n => show (a.tmps.setIfInBounds n u).size = _; simp
theorem put_defers (a : Act) (d : Option Nat) (u : Value) : (a.put d u).defers = a.defers := by cases d <;> rfl

/-- What holds behind an operation. -/
def Goes (base : World) (ρ : Rho) (S : AS) (o : Oper) (a : Act) (k : K) (z : AV × Option AS) (next : Act → World → Prop) : Prop :=
  ∀ v S' ρ' w' u, k v S' = some z → ρ.le ρ' → Keep ρ ρ' S S' → WRel base ρ' S' w' → Den ρ' v u → next (a.put o.dst u) w'

theorem post_wp {next : Act → World → Prop} {Q : Exit → Act → World → Prop} {ro : Option Nat} (hd : ∀ c, o.op ≠ .defer c) (hp : OpPost base P ρ S a.eval o w c z) (hn : Goes base ρ S o a c z next) : o.wpIn (FW ro) 0 P a w next Q := by
  obtain ⟨v, S', ρ', w', u, h1, h2, h3, h4, h5, h6⟩ := hp
  unfold Oper.wpIn
  refine ⟨fun _ _ => trivial, ?_⟩
  rw [Oper.semAt_eq _ _ _ hd]
  rcases h6 with h6 | ⟨h6, rfl⟩
  · rw [h6]; exact hn v S' ρ' w' u h1 h2 h3 h4 h5
  · rw [h6]; exact hn v S' ρ' w' undef h1 h2 h3 h4 h5
theorem plain_wp {x : AO} {next : Act → World → Prop} {Q : Exit → Act → World → Prop} {ro : Option Nat} (hd : ∀ c, o.op ≠ .defer c) (hs : Sound P o x) (he : EvRel ρ t a.eval) (hw : WRel base ρ S w) (h : opK x t S c = some z) (hn : Goes base ρ S o a c z next) : o.wpIn (FW ro) 0 P a w next Q :=
  post_wp hd (hs.post he hw h) hn

theorem stepC_plain {x : AO} {cl : Cl} (h : isCall x = false) : stepC x cl t S c = opK x t S c := by
  cases x <;> first | rfl | cases h

theorem names_call {g : FuncId} {fn : Func} {args : Array Value} (hf : P.funcs[g]? = some fn) (hn : (fn.name == "runtime.NumGoroutine") = false) (hb : fn.body.isNone = false) (w : World) : (callFunc g args).run P w = .ok (.enter g args) w := by
  have hn' : ¬ fn.name = "runtime.NumGoroutine" := by simpa using hn
  have hb' : ¬ fn.body = none := by intro e; rw [e] at hb; cases hb
  simp [callFunc, hf, hn', hb']

theorem method_wp {ty : TypeId} {name : String} {g : FuncId} {v : Value} {k : Nat} (h : methFn P name ty = some g) (w : World) : (method (k + 1) ty v name).run P w = .ok (g, v) w := by
  unfold methFn at h
  obtain ⟨i, hi, h⟩ := bind_some h
  obtain ⟨m, hm, h⟩ := bind_some h
  split at h
  · rename_i f el h1 h2 h3
    cases h
    unfold method
    simp [typeInfo, hi, hm, h1, h2, follow, receiverAt, run_underlying h3, Place.get]
  · cases h

/-- A call's post. -/
def postOf (o : Oper) (a : Act) (next : Act → World → Prop) (Q : Exit → Act → World → Prop) : Ending → World → Prop
  | .returned v, w'' => next (a.put o.dst v) w''
  | .panicked chain, w'' => Q (.panic chain) a w''
  | .outgrown, _ => LetsOut Q
theorem enter_wp {g : FuncId} {us : List Value} {next : Act → World → Prop} {Q : Exit → Act → World → Prop} {ro : Option Nat} (hd : ∀ c, o.op ≠ .defer c) (hr : (execOp a.eval o).run P w = .ok (.enter g us.toArray) w) (hc : CallsIn (FW none) 0 P g us.toArray w (postOf o a next Q)) : o.wpIn (FW ro) 0 P a w next Q := by
  unfold Oper.wpIn
  refine ⟨fun _ _ => trivial, ?_⟩
  rw [Oper.semAt_eq _ _ _ hd, hr, Oper.uponIn_enter]
  refine ⟨fun h => (by cases h), CallsIn.mono (F := FW none) (n := 0) hc fun e w h => ?_⟩
  cases e <;> exact h
theorem round_wp {r : Nat} {f : FuncId} {tmps : Array Value} {x y : Code} {next : Act → World → Prop} {Q : Exit → Act → World → Prop} {ro : Option Nat} (hd : ∀ c, o.op ≠ .defer c) (hr : (execOp a.eval o).run P w = .ok (.round r f tmps x y) w) (hc : RoundIn (FW none) 0 P r f tmps x y w (postOf o a next Q)) : o.wpIn (FW ro) 0 P a w next Q := by
  unfold Oper.wpIn
  refine ⟨fun _ _ => trivial, ?_⟩
  rw [Oper.semAt_eq _ _ _ hd, hr, Oper.uponIn_round]
  refine ⟨fun h => (by cases h), RoundIn.mono (F := FW none) (n := 0) hc fun e w h => ?_⟩
  cases e <;> exact h

theorem DenL.append {ρ : Rho} : ∀ {x : List AV} {u : List Value} {y : List AV} {v : List Value}, DenL ρ x u → DenL ρ y v → DenL ρ (x ++ y) (u ++ v)
  | _, _, _, _, .nil, h => h
  | _, _, _, _, .cons a b, h => .cons a (b.append h)

theorem sound_callOp {x : AO} {cl : Cl} {next : Act → World → Prop} {Q : Exit → Act → World → Prop} {ro : Option Nat} (hN : ∀ (g : FuncId) (fn : Func), P.funcs[g]? = some fn → (fn.name == "runtime.NumGoroutine") = false) (hcl : ClOK P cl) (hx : compOp? P o = some x) (hcall : isCall x = true) (he : EvRel ρ t a.eval) (hw : WRel base ρ S w)
    (h : stepC x cl t S c = some z) (hn : Goes base ρ S o a c z next) : o.wpIn (FW ro) 0 P a w next Q := by
  have post : ∀ (g : FuncId) (args : List AV) (us : List Value), DenL ρ args us → cl (.xfn g) args S c = some z → (∀ c, o.op ≠ .defer c) → (execOp a.eval o).run P w = (callFunc g us.toArray).run P w → o.wpIn (FW ro) 0 P a w next Q := by
    intro g args us hl hc hd hr
    rcases hcl base ρ S w (.xfn g) args us c z (postOf o a next Q) hw hl hc (fun v S' ρ' w' u h1 h2 h3 h4 h5 => hn v S' ρ' w' u h1 h2 h3 h4 h5) with ⟨hcalls, fn, hf, hb⟩ | ⟨u, w', hrun, hpost⟩
    · exact enter_wp hd (hr.trans (names_call hf (hN g fn hf) hb w)) hcalls
    · unfold Oper.wpIn
      refine ⟨fun _ _ => trivial, ?_⟩
      rw [Oper.semAt_eq _ _ _ hd, hr, hrun]
      exact hpost
  obtain ⟨dst, op, type, pos, after, guard⟩ := o
  cases op with
  | call cc =>
    obtain ⟨callee, args, ats⟩ := cc
    cases callee with
    | builtin b =>
      exfalso
      rcases sound_call hx with ⟨h1, _⟩ | ⟨_, h1, _⟩ | ⟨_, _, h1, _⟩
      · exact absurd ((isCall_class hcall).1.symm.trans h1) (by simp)
      · exact absurd ((isCall_class hcall).2.symm.trans h1) (by simp)
      · exact h1 hcall
    | value f =>
      have dync : ∀ (x' : AR) (as : List AR), ofOperand f = some x' → ofOperands args.toList = some as → cDyn x' as cl t S c = some z → Oper.wpIn (FW ro) 0 P { dst, op := .call { callee := .value f, args, argTypes := ats }, type, pos, after, guard } a w next Q := by
        intro x' as hf has h
        have hd := he f x' hf
        rcases ifB_or (show ifB (isYl (ev x' t)) (onYl (ev x' t) fun l => cl (.yl l) (evs as t) S c) (onFn (ev x' t) fun g a b => cl (.xfn g) (List.append a (List.append (evs as t) b)) S c) = some z from h) with ⟨_, h⟩ | ⟨_, h⟩
        · obtain ⟨l, hv, h⟩ := onYl_some h
          rw [hv] at hd
          generalize hef : a.eval f = vf at hd
          cases hd with
          | @yl _ r y hρ =>
            obtain ⟨fi, tmps, x, y, hy, hround⟩ := hcl base ρ S w (.yl l) _ _ c z (postOf { dst, op := .call { callee := .value f, args, argTypes := ats }, type, pos, after, guard } a next Q) hw (evs_rel has he) h (fun v S' ρ' w' u h1 h2 h3 h4 h5 => hn v S' ρ' w' u h1 h2 h3 h4 h5) _ _ hρ
            refine round_wp (fun _ h => by cases h) ?_ hround
            rw [← hy]
            simp [execOp, resolve, hef, Deferred.ofValue, invoke]
            congr 1
            apply congrArg (Instr.yield r)
            apply Array.toList_inj.1
            simp
        obtain ⟨g, fi, ca, hv, h⟩ := onFn_some h
        rw [hv] at hd
        generalize hef : a.eval f = vf at hd
        cases hd with
        | @fn _ _ _ fi' ca' h1 h2 =>
          have hl := evs_rel has he
          refine post g _ _ (h1.append (hl.append h2)) h (fun _ h => by cases h) ?_
          simp [execOp, resolve, hef, Deferred.ofValue, invoke]
          congr 1
          apply congrArg (callFunc g)
          apply Array.toList_inj.1
          simp
      cases f with
      | func g =>
        obtain ⟨as, has, rfl⟩ := map_some (show (ofOperands args.toList).map (fun a => AO.call g a) = some x from hx)
        refine post g _ _ (evs_rel has he) h (fun _ h => by cases h) ?_
        simp [execOp, resolve, Deferred.ofValue, invoke, Act.eval]
        congr 1
        apply congrArg (callFunc g)
        apply Array.toList_inj.1
        simp
      | tmp q =>
        obtain ⟨x', hf, h1⟩ := bind_some (show (ofOperand (.tmp q)).bind (fun f => (ofOperands args.toList).map fun a => AO.dyn f a) = some x from hx)
        obtain ⟨as, has, rfl⟩ := map_some h1
        exact dync x' as hf has h
      | const q =>
        obtain ⟨x', hf, h1⟩ := bind_some (show (ofOperand (.const q)).bind (fun f => (ofOperands args.toList).map fun a => AO.dyn f a) = some x from hx)
        obtain ⟨as, has, rfl⟩ := map_some h1
        exact dync x' as hf has h
      | global q =>
        obtain ⟨x', hf, h1⟩ := bind_some (show (ofOperand (.global q)).bind (fun f => (ofOperands args.toList).map fun a => AO.dyn f a) = some x from hx)
        cases hf
    | invoke rx name =>
      obtain ⟨x', hf, h1⟩ := bind_some (show (ofOperand rx).bind (fun x => (ofOperands args.toList).map fun a => AO.invoke x (methFn P name) a) = some x from hx)
      obtain ⟨as, has, rfl⟩ := map_some h1
      obtain ⟨ty, v, hv, h⟩ := onIfc_some (show onIfc (ev x' t) _ = some z from h)
      obtain ⟨g, hg, h⟩ := onSome_some h
      have hd := he rx x' hf
      rw [hv] at hd
      generalize hef : a.eval rx = vf at hd
      cases hd with
      | @ifc _ _ v' h1 =>
        refine post g _ _ (.cons h1 (evs_rel has he)) h (fun _ h => by cases h) ?_
        have hm : 0 < Made.depth := by decide
        obtain ⟨k, hk⟩ : ∃ k, P.types.size + Made.depth = k + 1 := ⟨P.types.size + Made.depth - 1, by omega⟩
        have e0 : (#[Value.iface ty v'] ++ args.map a.eval)[0]? = some (.iface ty v') := by
          rw [Array.getElem?_append_left (by simp)]; rfl
        have e1 : (#[Value.iface ty v'] ++ args.map a.eval).extract 1 (#[Value.iface ty v'] ++ args.map a.eval).size = args.map a.eval := by
          apply Array.toList_inj.1
          simp [List.extract]
          exact List.take_of_length_le (by simp)
        have e2 : (invoke (.fn (.method name) #[]) (#[Value.iface ty v'] ++ args.map a.eval)).run P w = (callMethod (.iface ty v') name (args.map a.eval)).run P w := by
          simp only [invoke, e0, e1]
        have e3 : (execOp a.eval { dst, op := .call { callee := .invoke rx name, args, argTypes := ats }, type, pos, after, guard }).run P w = (invoke (.fn (.method name) #[]) (#[Value.iface ty v'] ++ args.map a.eval)).run P w := by
          simp [execOp, resolve, hef]
        rw [e3, e2]
        simp [callMethod, hk, method_wp hg]
        congr 1
        apply congrArg (callFunc g)
        apply Array.toList_inj.1
        simp
  | defer cc =>
    obtain ⟨callee, args, ats⟩ := cc
    cases callee with
    | value f =>
      obtain ⟨x', hf, h1⟩ := bind_some (show (ofOperand f).bind (fun f => (ofOperands args.toList).map fun a => AO.defer f a) = some x from hx)
      obtain ⟨as, has, rfl⟩ := map_some h1
      cases h
    | _ => cases hx
  | next x s =>
    cases s with
    | true => cases hx
    | false =>
      obtain ⟨x', hf, rfl⟩ := map_some (show (ofOperand x).map AO.mnext = some _ from hx)
      obtain ⟨u, w', hrun, hpost⟩ := hcl base ρ S w .nx [ev x' t] [a.eval x] c z (postOf { dst, op := .next x false, type, pos, after, guard } a next Q) hw (.cons (he x x' hf) .nil) h (fun v S' ρ' w' u h1 h2 h3 h4 h5 => hn v S' ρ' w' u h1 h2 h3 h4 h5)
      have hrun' : ∀ ty, (Instr.next (a.eval x) false ty).run P w = .ok u w' := hrun
      unfold Oper.wpIn
      refine ⟨fun _ _ => trivial, ?_⟩
      rw [Oper.semAt_eq _ _ _ (fun _ h => by cases h)]
      have e1 : (execOp a.eval { dst, op := .next x false, type, pos, after, guard }).run P w = .ok (.value u) w' := by simp [execOp, hrun']
      rw [e1]
      exact hpost
  | _ =>
    exfalso
    rcases sound_of hx with ⟨h1, _⟩ | ⟨_, h1, _⟩ | ⟨_, _, h1, _⟩
    · exact absurd ((isCall_class hcall).1.symm.trans h1) (by simp)
    · exact absurd ((isCall_class hcall).2.symm.trans h1) (by simp)
    · exact h1 hcall
end Go.Proofs.YtpochibfjpanhaaGreat.Exe
