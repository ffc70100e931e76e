/- A part of the machine that reckons a closed run, and of the proof that what it says the given program does. No conditions. -/
import Derived.Test.YtgpbcnagaelhiaaGreatMh
import Derived.Test.YtgpbcnagaelhiaaGreatMd
import Derived.WideShapes
import Derived.Lib.ReflectliteSwap
import Derived.Laws.Externs
import Derived.Deep.MidRow
set_option linter.unusedVariables false
set_option linter.unusedSimpArgs false
namespace Go.Proofs.YtgpbcnagaelhiaaGreat.Exe
open Go
variable {base : Base} {w : World} {P : Program} {ρ : Rho} {S : AS} {t : T} {o : Oper} {c : K} {z : AV × Option AS} {a : Act}
variable {ops : Array Oper} {N : Nat}

/-! ### What is looked at when a region is compiled -/
theorem ancOk_at {os : List Oper} {anc : List Nat} : ∀ {n : Nat}, ancOk os anc n = true → ∀ i o, i < n → os[i]? = some o → (o.after.toList.all fun e => !Region.binds .any e || Nat.blt e.on i) = true ∧ subN (anc.getD i 0) (ancNow anc o) = true
  | 0, _, _, _, h, _ => by omega
  | n + 1, h, i, o, hi, ho => by
    unfold ancOk at h
    rw [Bool.and_eq_true] at h
    by_cases hin : i = n
    · subst hin
      rw [ho] at h
      simpa using h.1
    · exact ancOk_at h.2 i o (by omega) ho

theorem ancNow_test {anc : List Nat} : ∀ (l : List Edge) (m j : Nat), (l.foldl (fun m e => bif Region.binds .any e then m ||| (bitN e.on ||| anc.getD e.on 0) else m) m).testBit j = true → m.testBit j = true ∨ ∃ e ∈ l, Region.binds .any e = true ∧ (j = e.on ∨ Anc anc e.on j)
  | [], m, j, h => .inl h
  | e :: l, m, j, h => by
    rw [List.foldl_cons] at h
    rcases ancNow_test l _ j h with h1 | ⟨e', h1, h2⟩
    · cases hb : Region.binds .any e with
      | false => rw [hb] at h1; exact .inl h1
      | true =>
        rw [hb] at h1
        rcases (or_test _ _ _).1 h1 with h1 | h1
        · exact .inl h1
        · refine .inr ⟨e, List.mem_cons_self, hb, ?_⟩
          rcases (or_test _ _ _).1 h1 with h1 | h1
          · rw [bitN_test, decide_eq_true_eq] at h1
            exact .inl h1.symm
          · exact .inr h1
    · exact .inr ⟨e', List.mem_cons_of_mem _ h1, h2⟩

theorem drawnOk_of {anc : List Nat} {M n : Nat} (h1 : ancOk ops.toList anc (ops.toList.map (compOper P ops)).length = true) (h2 : clashOk ops.toList (ops.toList.map (compOper P ops)) anc M = true) (h3 : dstsOk n ops = true) (hn : n ≤ N) : DrawnOk P ops anc M N := by
  have hlen : (ops.toList.map (compOper P ops)).length = ops.size := by simp
  have hlt : ∀ {i o}, ops[i]? = some o → i < ops.size := fun h => (Array.getElem?_eq_some_iff.1 h).1
  have hl : ∀ {i o}, ops[i]? = some o → ops.toList[i]? = some o := fun h => by rw [Array.getElem?_toList]; exact h
  have hclash : ∀ {i j o o' d}, ops[i]? = some o → ops[j]? = some o' → o'.dst = some d →
      ((!(looksA (compOper P ops o)).contains d || (anc.getD i 0).testBit j || (M.testBit j && (Nat.beq i j || (anc.getD j 0).testBit i))) = true) ∧
      ((Nat.beq i j || (match o.dst with | some d' => !Nat.beq d d' || (M.testBit j && (anc.getD j 0).testBit i) || (M.testBit i && (anc.getD i 0).testBit j) | none => true)) = true) := by
    intro i j o o' d ho ho' hd
    unfold clashOk at h2
    have h := List.all_eq_true.1 h2 j (List.mem_range.2 (by rw [hlen]; exact hlt ho'))
    rw [hl ho'] at h
    simp only [Option.bind_some, hd] at h
    have h := List.all_eq_true.1 h i (List.mem_range.2 (by rw [hlen]; exact hlt ho))
    rw [as_get, ho, hl ho] at h
    simp only [Option.map_some, Option.getD_some, Option.bind_some, Bool.and_eq_true] at h
    exact h
  refine { edges := fun i o ho e he hb => ?_, must := fun i o ho j hj => ?_, reads := fun i j o o' d ho ho' hd hm => ?_, dsts := fun i j o o' d ho ho' hne hd hd' => ?_, tmps := fun i o d ho hd => Nat.lt_of_lt_of_le (dstsOk_at h3 ho d hd) hn }
  · have h := (ancOk_at h1 i o (by rw [hlen]; exact hlt ho) (hl ho)).1
    have h := List.all_eq_true.1 h e (by simpa using he)
    rw [hb] at h
    exact blt_lt (by simpa using h)
  · have h := (ancOk_at h1 i o (by rw [hlen]; exact hlt ho) (hl ho)).2
    have h := subN_test h hj
    rcases ancNow_test _ 0 j h with h | ⟨e, he, hb, h⟩
    · rw [zero_test] at h; cases h
    · exact ⟨e, by simpa using he, hb, h⟩
  · have h := (hclash ho ho' hd).1
    simp only [Bool.or_eq_true, Bool.not_eq_true', Bool.and_eq_true] at h
    rcases h with (h | h) | ⟨h, h'⟩
    · have : (looksA (compOper P ops o)).contains d = true := by simpa using hm
      rw [this] at h; cases h
    · exact .inl h
    · exact .inr ⟨h, h'.imp (fun h => beq_true h) id⟩
  · have h := (hclash ho ho' hd').2
    rw [hd] at h
    simp only [Bool.or_eq_true, Bool.not_eq_true', Bool.and_eq_true] at h
    rcases h with h | (h | h) | h
    · exact absurd (beq_true h) hne
    · exact absurd rfl (beq_false h)
    · exact .inl h
    · exact .inr h

theorem drawn_region {cl : Cl} {Q : Exit → Act → World → Prop} {k : KL} {n : Nat} {id : Nat} {ro : Option Nat} (hm : P.follows .mixedOrders = true) (hN : NamesOk P) (hcl : ClOK P cl) (hd : dstsOk n ops = true) (hn : n ≤ N) (hr : RelA base ρ S w t a N) (h : runL (compDrawn P ops) cl t S k = some z) (hq : Ends base ρ S k z N (Q .normal)) :
    (Code.region id ops true).wpIn (FW ro) 0 P Q a w := by
  refine wpIn_region_any hm ?_
  unfold compDrawn at h
  dsimp only at h
  generalize hanc : ancs ops.toList [] = anc at h
  generalize horder : orderL (ops.toList.map (compOper P ops)).length anc ((List.range (ops.toList.map (compOper P ops)).length).map (classA ops.toList (ops.toList.map (compOper P ops)) anc)) (2 * (ops.toList.map (compOper P ops)).length + 1) 0 0 0 0 = res at h
  generalize kindsOf res = M at h
  cases hc : (chkL (ops.toList.map (compOper P ops)) anc M res 0 0 0 0 && ancOk ops.toList anc (ops.toList.map (compOper P ops)).length && clashOk ops.toList (ops.toList.map (compOper P ops)) anc M && !ops.toList.any isSelect) with
  | false => rw [hc] at h; cases h
  | true =>
    rw [hc] at h
    simp only [Bool.and_eq_true] at hc
    obtain ⟨⟨⟨h1, h2⟩, h3⟩, _⟩ := hc
    have h : runL (compW (ops.toList.map (compOper P ops)) res) cl t S k = some z := h
    have hdr := drawnOk_of (N := N) h2 h3 hd hn
    have hnone : ∀ j, (Array.replicate ops.size false).getD j false = false := fun j => by
      rw [Array.getD_eq_getD_getElem?, Array.getElem?_replicate]
      split <;> rfl
    have hI : Inv base P ops anc M N ρ S (fun j => (Array.replicate ops.size false).getD j false = true) 0 0 0 0 (fun _ => 0) ρ S { w with drawn := w.drawn + 1 } t a :=
      { world := hr.world.drew', le := ρ.le_refl, keep := .refl ρ S, defers := hr.defers, size := hr.size, den := fun n _ => hr.tmps n,
        sub := fun j hj => (by rw [hnone] at hj; cases hj),
        main := fun j hj => (by rw [zero_test] at hj; cases hj),
        ancL := fun j hj => (by rw [hnone] at hj; cases hj),
        ancE := fun j hj => (by rw [zero_test] at hj; cases hj),
        inA := fun j hj => (by rw [zero_test] at hj; cases hj),
        vE := fun j hj => (by rw [zero_test] at hj; cases hj),
        fact := fun j o _ hj => (by rw [zero_test] at hj; cases hj),
        ids := fun j1 j2 o1 o2 _ _ hj => (by rw [zero_test] at hj; cases hj) }
    obtain ⟨res', E', F', V', idf', S', t', hI', hr', hc', hb'⟩ := stage hdr res 0 0 0 (fun _ => 0) S t hI h h1
    refine drawn_go hN hcl hdr hq ops.size _ _ _ _ _ _ res' _ _ _ _ _ (by simp) ?_ hI' hb' hr' hc'
    unfold unl
    have := List.countP_le_length (p := fun b => !b) (l := (Array.replicate ops.size false).toList)
    simpa using this

/-! ### Code -/
def exOf : AX → Exit
  | .normal => .normal
  | .ret => .ret
  | .exit i => .exit i
/-- What the end of some code must meet. -/
def Outs (base : Base) (ρ : Rho) (S : AS) (k : KX) (z : AV × Option AS) (N : Nat) (Q : Exit → Act → World → Prop) : Prop :=
  ∀ x t' S' ρ' a' w', k x t' S' = some z → ρ.le ρ' → Keep ρ ρ' S S' → RelA base ρ' S' w' t' a' N → Q (exOf x) a' w'
theorem Outs.step {k : KX} {Q : Exit → Act → World → Prop} (h : Outs base ρ S k z N Q) {ρ' : Rho} {S' : AS} (hl : ρ.le ρ') (hk : Keep ρ ρ' S S') : Outs base ρ' S' k z N Q :=
  fun x t' S'' ρ'' a' w' h1 h2 h3 h4 => h x t' S'' ρ'' a' w' h1 (Rho.le_trans hl h2) (hk.trans h3) h4

def AgOK (P : Program) (ag : Ag) (m : Nat) : Prop :=
  ∀ (ro : Option Nat) (rd : Bool) (n N : Nat) (base : Base) (b : Code) (ρ : Rho) (S : AS) (w : World) (t : T) (a : Act) (k : KX) (z : AV × Option AS) (Q : Exit → Act → World → Prop), (ro = none ∨ rd = true) → n ≤ N → RelA base ρ S w t a N → ag (.loop (comp P rd n b)) t S k = some z → Outs base ρ S k z N Q → Code.roundsIn (FW ro) 0 P b Q m a w

theorem loop_round {cl : Cl} {ag : Ag} {m n : Nat} {b : Code} {ro : Option Nat} {rd : Bool} (hro : ro = none ∨ rd = true) (hag : AgOK P ag m) (hn : n ≤ N)
    (IH : ∀ (ρ : Rho) (S : AS) (w : World) (t : T) (a : Act) (k : KX) (Q : Exit → Act → World → Prop), RelA base ρ S w t a N → runA (comp P rd n b) cl ag t S k = some z → Outs base ρ S k z N Q → b.wpIn (FW ro) 0 P Q a w)
    {k : KX} {Q : Exit → Act → World → Prop} (hr : RelA base ρ S w t a N) (h : runA (.loop (comp P rd n b)) cl ag t S k = some z) (hq : Outs base ρ S k z N Q) : Code.roundsIn (FW ro) 0 P b Q (m + 1) a w := by
  rw [roundsIn_succ]
  refine IH ρ S w t a _ _ hr (show runA (comp P rd n b) cl ag t S (fun x t S => AX.rec (ag (.loop (comp P rd n b)) t S k) (k .ret t S) (fun i => k (.exit i) t S) x) = some z from h) fun x t' S' ρ' a' w' h1 h2 h3 h4 => ?_
  cases x with
  | normal => exact hag ro rd n N base b ρ' S' w' t' a' k z Q hro hn h4 h1 (hq.step h2 h3)
  | ret => exact hq .ret t' S' ρ' a' w' h1 h2 h3 h4
  | exit i => exact hq (.exit i) t' S' ρ' a' w' h1 h2 h3 h4

/-! ### A scope, in whatever frame -/
section
variable {b : Frame} {kk : List Item} {cs : List Frame}
theorem stepR_scope {c : Code} : step P (lone (b.atR a (.code (.scope c) :: kk)) cs w) = .next (lone (b.atR a (.code c :: .inScope c :: kk)) cs w) :=
  step_lone_go (by simp [stepG, stepG.exec, Frame.atR])
theorem stepR_inScope {c : Code} : step P (lone (b.atR a (.inScope c :: kk)) cs w) = .next (lone (b.atR a kk) cs w) :=
  step_lone_go (by simp [stepG, stepG.exec, Frame.atR])
end
theorem wpIn_scope {F : Fence} {m : Nat} {Q : Exit → Act → World → Prop} {c : Code} (h : c.wpIn F m P (Exit.noGoto Q) a w) : (Code.scope c).wpIn F m P Q a w := by
  intro b k cs hro hb hr
  have h0 : (lone (b.atR a (.code (.scope c) :: k)) cs w).fenced P F := fenced_calm hb hr rfl
  obtain ⟨e, a₁, w₁, hq, harr⟩ := h b (.inScope c :: k) cs hro hb hr
  cases e with
  | normal => exact ⟨.normal, a₁, w₁, hq, .head h0 stepR_scope (StepsIn.trans harr (.one (fenced_calm hb hr rfl) stepR_inScope))⟩
  | exit id =>
    have hx : exitTo id (.inScope c :: k) = exitTo id k := by simp [exitTo]
    exact ⟨.exit id, a₁, w₁, hq, fun k' hk => .head h0 stepR_scope (harr.1 k' (by rw [hx]; exact hk)), fun hr' hk => let ⟨k₁, h1, h2⟩ := harr.2 hr' (by rw [hx]; exact hk); ⟨k₁, h1, .head h0 stepR_scope h2⟩⟩
  | goto l => exact hq.elim
  | ret => exact ⟨_, a₁, w₁, hq, .of_steps (.one h0 stepR_scope) harr⟩
  | panic ch => exact ⟨_, a₁, w₁, hq, .of_steps (.one h0 stepR_scope) harr⟩
  | outgrown => exact ⟨_, a₁, w₁, hq, .of_steps (.one h0 stepR_scope) harr⟩

/-! ### A range over a function -/
theorem run_getLoop {w : World} {r : Nat} {l : Loop} (h : w.heap[r]? = some (.loop l)) : (Instr.getLoop r).run P w = .ok l w := by simp [Instr.getLoop, getObj, Sem.run, h]
theorem run_setLoop {w : World} {r : Nat} {l : Loop} (ob : Obj) (h : w.heap[r]? = some (.loop l)) : (setObj r ob).run P w = .ok () (w.putObj r ob) := by simp [setObj, Sem.run, h, World.putObj]
theorem WRel.loop (h : WRel base ρ S w) {b r x st n : Nat} {pe : Option Nat} {t : T} {ps : List (List D4)} {asg c : Code} (hb : S.heap.getK b = some (.loop st pe t ps asg c n)) (e : ρ b = some (r, x)) :
    ∃ l : Loop, w.heap[r]? = some (.loop l) ∧ stNo l.state = st ∧ pendOf pe = l.pending ∧ (∀ m, Den ρ (evTmp (pathOf m) t) (l.tmps.getD m undef)) ∧ ps = l.params.toList.map pathOf ∧ (∀ p ∈ l.params, p < n) ∧ l.assign = asg ∧ l.body = c ∧ n ≤ l.tmps.size := by
  obtain ⟨u, hu, ho⟩ := h.obj b _ r x hb e
  cases ho with
  | loop a1 a2 a3 a4 a5 a6 a7 a8 => exact ⟨_, hu, a1, a2, a3, a4, a5, a6, a7, a8⟩
theorem run_newObj (o : Obj) (w : World) : (newObj o).run P w = .ok w.heap.size (w.alloc o) := by
  simp [newObj]
  rfl
theorem run_enterLoop (fn : FuncId) (tmps : Array Value) (ps : Array Tmp) (asg body : Code) (w : World) :
    (Instr.enterLoop fn tmps ps asg body none).run P w = .ok (w.heap.size + 1, [{ target := .collected w.heap.size, args := #[] }]) ((w.alloc (.deferred (some []))).alloc (.loop { state := .ready, pending := none, fn, tmps, params := ps, assign := asg, body, defers := w.heap.size })) := by
  have hsz : (w.alloc (.deferred (some []))).heap.size = w.heap.size + 1 := by show (w.heap.push _).size = _; simp
  simp only [Instr.enterLoop, Sem.run_bind, run_newObj, Result.andThen_ok, Sem.run_pure, hsz]
theorem run_endLoop {w : World} {r : Nat} {l : Loop} (h : w.heap[r]? = some (.loop l)) (hs : stNo l.state ≠ 1) : (Instr.endLoop r).run P w = .ok l.pending (w.putObj r (.loop { l with state := .exhausted })) := by
  obtain ⟨st, pe, fn, tmps, params, assign, body, defers⟩ := l
  cases st with
  | busy => exact absurd rfl hs
  | ready => simp [Instr.endLoop, run_getLoop h, run_setLoop _ h]
  | done => simp [Instr.endLoop, run_getLoop h, run_setLoop _ h]
  | exhausted => simp [Instr.endLoop, run_getLoop h, run_setLoop _ h]

theorem wpIn_pend {ro : Option Nat} {Q : Exit → Act → World → Prop} {pe : Option Nat} {k : KX} {n : Nat} (hr : RelA base ρ S w t a N) (h : outK pe t S k = some z) (hq : Outs base ρ S k z N Q) :
    (match pendOf pe with | none => Q .normal a w | some c => c.wpIn (FW ro) n P Q a w) := by
  match pe, h with
  | none, h => exact hq .normal t S ρ a w h ρ.le_refl (.refl ρ S) hr
  | some 0, h => exact wpIn_ret (hq .ret t S ρ a w h ρ.le_refl (.refl ρ S) hr)
  | some (i + 1), h => exact wpIn_exit (hq (.exit i) t S ρ a w h ρ.le_refl (.refl ρ S) hr)

theorem range_wp {cl : Cl} {ag : Ag} {n : Nat} {f : Operand} {f' : AR} {ps : Array Tmp} {asg b : Code} {k : KX} {Q : Exit → Act → World → Prop} (hN : NamesOk P) (hcl : ClOK P cl) (hn : n ≤ N) (hps : tmpsOk n ps = true) (hf : ofOperand f = some f') (hr : RelA base ρ S w t a N)
    (h : runA (.range f' (ps.toList.map pathOf) asg b n) cl ag t S k = some z) (hq : Outs base ρ S k z N Q) : (Code.rangeFunc f ps asg b).wpIn (FW none) 0 P Q a w := by
  have h := newK_some (k := fun d S => newK S (.loop 0 none t (ps.toList.map pathOf) asg b n) fun l S => onFn (ev f' t) fun g a b => cl (.fn g) (List.append a (.yl l :: b)) S fun _ S =>
    onLoop S l fun st pe t' ps asg c n => ifB (Nat.beq st 1) none (outK pe (t.push (.map d)) (overK (putK S l (.loop 3 pe t' ps asg c n)) l) k)) h
  have h := newK_some h
  obtain ⟨g, fa, fb, hv, h⟩ := onFn_some h
  refine wpIn_rangeFunc fun fn _ => ?_
  have hw1 := hr.world.alloc (.dfr true) (.deferred (some [])) 0 .dfr
  have hle1 : ρ.le (ρ.add S.next (w.heap.size, 0)) := Rho.le_add (hr.world.dom _ (Nat.le_refl _))
  have hpsn : ∀ p ∈ ps, p < n := fun p hp => ble_true (List.all_eq_true.1 hps p (by simpa using hp))
  have hle2 : (ρ.add S.next (w.heap.size, 0)).le ((ρ.add S.next (w.heap.size, 0)).add (Nat.succ S.next) ((w.alloc (.deferred (some []))).heap.size, 0)) := Rho.le_add (hw1.dom _ (Nat.le_refl _))
  have hw2 := hw1.alloc (.loop 0 none t (ps.toList.map pathOf) asg b n) (.loop { state := .ready, pending := none, fn, tmps := a.tmps, params := ps, assign := asg, body := b, defers := w.heap.size }) 0
    (.loop rfl rfl (fun m => (hr.tmps m).mono (Rho.le_trans hle1 hle2)) rfl hpsn rfl rfl (by rw [hr.size]; exact hn))
  have hd := hr.tmps.ev f f' hf
  rw [hv] at hd
  generalize hef : a.eval f = vf at hd
  cases hd with
  | @fn _ _ _ fi ca h1 h2 =>
  have hle := Rho.le_trans hle1 hle2
  have hsz : (w.alloc (.deferred (some []))).heap.size = w.heap.size + 1 := by show (w.heap.push _).size = _; simp
  have hyl : Den ((ρ.add S.next (w.heap.size, 0)).add (Nat.succ S.next) ((w.alloc (.deferred (some []))).heap.size, 0)) (.yl (Nat.succ S.next)) (.func (.yield (w.heap.size + 1)) #[] #[]) := by
    have := Rho.add_same (ρ.add S.next (w.heap.size, 0)) (Nat.succ S.next) ((w.alloc (.deferred (some []))).heap.size, 0)
    rw [hsz] at this ⊢
    exact .yl this
  obtain ⟨hcalls, fnn, hfn, hbody⟩ := hcl base _ _ _ (.fn g) _ (fi ++ (.func (.yield (w.heap.size + 1)) #[] #[] :: ca)) _ z (rangePost (FW none) 0 P (w.heap.size + 1) Q { a with defers := [{ target := .collected w.heap.size, args := #[] }] ++ a.defers }) hw2 ((h1.mono hle).append (.cons hyl (h2.mono hle))) h (fun v S' ρ' w' u hk k1 k2 k3 k4 => by
    obtain ⟨st, pe, t', ps', asg', c', n', hb, hk⟩ := onLoop_some hk
    rcases ifB_or (show ifB (Nat.beq st 1) none (outK pe (t.push (.map S.next)) (overK (putK S' (Nat.succ S.next) (.loop 3 pe t' ps' asg' c' n')) (Nat.succ S.next)) k) = some z from hk) with ⟨_, hk⟩ | ⟨hst, hk⟩
    · cases hk
    have hρl := k1 _ _ (Rho.add_same (ρ.add S.next (w.heap.size, 0)) (Nat.succ S.next) ((w.alloc (.deferred (some []))).heap.size, 0))
    rw [hsz] at hρl
    obtain ⟨l, hl, a1, a2, a3, a4, a5, a6, a7, a8⟩ := k3.loop hb hρl
    refine ⟨_, _, run_endLoop hl (by rw [a1]; exact beq_false hst), ?_⟩
    have hw4 : WRel base ρ' (overK (putK S' (Nat.succ S.next) (.loop 3 pe t' ps' asg' c' n')) (Nat.succ S.next)) (w'.putObj (w.heap.size + 1) (.loop { l with state := .exhausted })) := (k3.put ⟨_, hb⟩ hρl (ORel.loop (r := { l with state := .exhausted }) (x := 0) (st := 3) (pe := pe) rfl a2 a3 a4 a5 a6 a7 a8)).del _
    have hkeep : Keep ρ ρ' S (overK (putK S' (Nat.succ S.next) (.loop 3 pe t' ps' asg' c' n')) (Nat.succ S.next)) := (Keep.new.trans (Keep.new.trans k2)).trans ((Keep.put hρl).trans (Keep.del hρl))
    have hkl : ρ.le ρ' := Rho.le_trans hle k1
    have hfin := wpIn_pend (base := base) (ρ := ρ') (N := N) (ro := none) (n := 0) (P := P) (a := { a with defers := [{ target := .collected w.heap.size, args := #[] }] ++ a.defers }) ⟨hw4, fun m => (by rw [evTmp_push]; exact (hr.tmps m).mono hkl), (by
      rw [off_push]
      exact .mark (k1 _ _ (hle2 _ _ (Rho.add_same ρ S.next (w.heap.size, 0)))) (hr.defers.mono hkl)), hr.size⟩ hk (hq.step hkl hkeep)
    rw [a2] at hfin
    exact hfin)
  have he := run_enterLoop (P := P) fn a.tmps ps asg b w
  generalize (w.alloc (.deferred (some []))).alloc (.loop { state := .ready, pending := none, fn, tmps := a.tmps, params := ps, assign := asg, body := b, defers := w.heap.size }) = W2 at he hcalls
  have hres : (resolve a.eval (rangeCall f (w.heap.size + 1)) 0).run P W2 = .ok { target := .fn (.func g) ca.toArray, args := fi.toArray ++ #[.func (.yield (w.heap.size + 1)) #[] #[]] } W2 := by
    have e1 : a.eval (.const (.func (.yield (w.heap.size + 1)) #[] #[])) = .func (.yield (w.heap.size + 1)) #[] #[] := rfl
    simp [resolve, hef, Deferred.ofValue, e1]
  have hinv : (invoke (.fn (.func g) ca.toArray) (fi.toArray ++ #[.func (.yield (w.heap.size + 1)) #[] #[]])).run P W2 = .ok (.enter g (fi ++ (.func (.yield (w.heap.size + 1)) #[] #[] :: ca)).toArray) W2 := by
    have := names_call (args := (fi ++ (.func (.yield (w.heap.size + 1)) #[] #[] :: ca)).toArray) hfn (hN g fnn hfn) hbody W2
    rw [← this]
    simp only [invoke]
    congr 1
    apply congrArg (callFunc g)
    apply Array.toList_inj.1
    simp
  exact ⟨w.heap.size + 1, [{ target := .collected w.heap.size, args := #[] }], W2, _, W2, g, _, W2, he, hres, fun _ _ => trivial, hinv, fun h => (by cases h), hcalls⟩

theorem code_wp {cl : Cl} {ag : Ag} {m n : Nat} {ro : Option Nat} {rd : Bool} (hm : P.follows .mixedOrders = true) (hN : NamesOk P) (hcl : ClOK P cl) (hag : AgOK P ag m) (hro : ro = none ∨ rd = true) (hn : n ≤ N) :
    ∀ (b : Code) (ρ : Rho) (S : AS) (w : World) (t : T) (a : Act) (k : KX) (Q : Exit → Act → World → Prop), RelA base ρ S w t a N → runA (comp P rd n b) cl ag t S k = some z → Outs base ρ S k z N Q → b.wpIn (FW ro) 0 P Q a w
  | .skip, ρ, S, w, t, a, k, Q, hr, h, hq => wpIn_skip (hq .normal t S ρ a w h ρ.le_refl (.refl ρ S) hr)
  | .label l, ρ, S, w, t, a, k, Q, hr, h, hq => wpIn_label (hq .normal t S ρ a w h ρ.le_refl (.refl ρ S) hr)
  | .exit i, ρ, S, w, t, a, k, Q, hr, h, hq => wpIn_exit (hq (.exit i) t S ρ a w h ρ.le_refl (.refl ρ S) hr)
  | .ret, ρ, S, w, t, a, k, Q, hr, h, hq => wpIn_ret (hq .ret t S ρ a w h ρ.le_refl (.refl ρ S) hr)
  | .region id ops d, ρ, S, w, t, a, k, Q, hr, h, hq => by
    have h : runA (bif dstsOk n ops then (bif rd && !noDefer ops then .bad else bif d then .region (compDrawn P ops) else .region (compL (ops.toList.map (compOper P ops)))) else .bad) cl ag t S k = some z := h
    cases hd : dstsOk n ops with
    | false => rw [hd] at h; cases h
    | true =>
      rw [hd] at h
      have hnd : ro = none ∨ noDefer ops = true := by
        rcases hro with h1 | h1
        · exact .inl h1
        · subst h1
          cases hx : noDefer ops with
          | true => exact .inr rfl
          | false => rw [hx] at h; cases h
      have h : runA (bif d then .region (compDrawn P ops) else .region (compL (ops.toList.map (compOper P ops)))) cl ag t S k = some z := by
        cases hx : (rd && !noDefer ops) with
        | true => rw [hx] at h; cases h
        | false => rw [hx] at h; exact h
      have hq' : Ends base ρ S (k .normal) z N (Q .normal) := fun t' S' ρ' a' w' h1 h2 h3 h4 => hq .normal t' S' ρ' a' w' h1 h2 h3 h4
      cases d with
      | true => exact drawn_region hm hN hcl hd hn hr h hq'
      | false =>
        refine wpIn_region ?_
        have hd' : dstsOk N ops = true := by
          refine List.all_eq_true.2 fun o ho => ?_
          have := List.all_eq_true.1 hd o ho
          cases hdst : o.dst with
          | none => rfl
          | some d =>
            rw [hdst] at this
            have hlt : d < n := ble_true (show Nat.ble (d + 1) n = true from this)
            exact Nat.ble_eq_true_of_le (Nat.lt_of_lt_of_le hlt hn)
        have := plain_region (base := base) (z := z) (Q := Q) hN hcl hd' hnd ops.toList 0 ρ S w t a (by simp) hr h hq'
        rw [Array.length_toList] at this
        rw [List.range_eq_range']
        exact this
  | .seq x y, ρ, S, w, t, a, k, Q, hr, h, hq => by
    refine wpIn_seq (code_wp hm hN hcl hag hro hn x ρ S w t a _ _ hr (show runA (comp P rd n x) cl ag t S (fun x t S => AX.rec (runA (comp P rd n y) cl ag t S k) (k .ret t S) (fun i => k (.exit i) t S) x) = some z from h) fun e t' S' ρ' a' w' h1 h2 h3 h4 => ?_)
    cases e with
    | normal => exact code_wp hm hN hcl hag hro hn y ρ' S' w' t' a' k Q h4 h1 (hq.step h2 h3)
    | ret => exact hq .ret t' S' ρ' a' w' h1 h2 h3 h4
    | exit i => exact hq (.exit i) t' S' ρ' a' w' h1 h2 h3 h4
  | .cond c x y, ρ, S, w, t, a, k, Q, hr, h, hq => by
    cases hc : ofOperand c with
    | none =>
      have h : runA (match ofOperand c with | some c => .cond c (comp P rd n x) (comp P rd n y) | none => .bad) cl ag t S k = some z := h
      rw [hc] at h
      cases h
    | some c' =>
      have h : runA (match ofOperand c with | some c => .cond c (comp P rd n x) (comp P rd n y) | none => .bad) cl ag t S k = some z := h
      rw [hc] at h
      obtain ⟨b, hb, h⟩ := onBool_some (show onBool (ev c' t) (fun b => ifB b (runA (comp P rd n x) cl ag t S k) (runA (comp P rd n y) cl ag t S k)) = some z from h)
      have hd := hr.tmps.ev c c' hc
      rw [hb] at hd
      generalize hv : a.eval c = v at hd
      cases hd
      cases b with
      | true => exact wpIn_cond_true hv (code_wp hm hN hcl hag hro hn x ρ S w t a k Q hr h hq)
      | false => exact wpIn_cond_false hv (code_wp hm hN hcl hag hro hn y ρ S w t a k Q hr h hq)
  | .block id b, ρ, S, w, t, a, k, Q, hr, h, hq => by
    refine wpIn_block (code_wp hm hN hcl hag hro hn b ρ S w t a _ _ hr (show runA (comp P rd n b) cl ag t S (fun x t S => AX.rec (k .normal t S) (k .ret t S) (fun i => ifB (Nat.beq i id) (k .normal t S) (k (.exit i) t S)) x) = some z from h) fun e t' S' ρ' a' w' h1 h2 h3 h4 => ?_)
    cases e with
    | normal => exact hq .normal t' S' ρ' a' w' h1 h2 h3 h4
    | ret => exact hq .ret t' S' ρ' a' w' h1 h2 h3 h4
    | exit i =>
      show if i = id then Q .normal a' w' else Q (.exit i) a' w'
      rcases ifB_or (show ifB (Nat.beq i id) (k .normal t' S') (k (.exit i) t' S') = some z from h1) with ⟨hb, h1⟩ | ⟨hb, h1⟩
      · rw [if_pos (beq_true hb)]
        exact hq .normal t' S' ρ' a' w' h1 h2 h3 h4
      · rw [if_neg (beq_false hb)]
        exact hq (.exit i) t' S' ρ' a' w' h1 h2 h3 h4
  | .scope b, ρ, S, w, t, a, k, Q, hr, h, hq => by
    refine wpIn_scope (code_wp hm hN hcl hag hro hn b ρ S w t a k _ hr h fun e t' S' ρ' a' w' h1 h2 h3 h4 => ?_)
    cases e with
    | normal => exact hq .normal t' S' ρ' a' w' h1 h2 h3 h4
    | ret => exact hq .ret t' S' ρ' a' w' h1 h2 h3 h4
    | exit i => exact hq (.exit i) t' S' ρ' a' w' h1 h2 h3 h4
  | .loop b, ρ, S, w, t, a, k, Q, hr, h, hq => wpIn_loop_rounds (m + 1) (loop_round hro hag hn (code_wp hm hN hcl hag hro hn b) hr h hq)
  | .goto l, ρ, S, w, t, a, k, Q, hr, h, hq => by cases h
  | .rangeFunc f ps x b, ρ, S, w, t, a, k, Q, hr, h, hq => by
    have h : runA (bif rd then .bad else bif tmpsOk n ps then (match ofOperand f with | some f => .range f (ps.toList.map pathOf) x b n | none => .bad) else .bad) cl ag t S k = some z := h
    cases hrd : rd with
    | true => rw [hrd] at h; cases h
    | false =>
      rw [hrd] at h
      have hro' : ro = none := hro.resolve_right (by rw [hrd]; intro h; cases h)
      subst hro'
      cases hps : tmpsOk n ps with
      | false => rw [hps] at h; cases h
      | true =>
        rw [hps] at h
        cases hf : ofOperand f with
        | none => rw [hf] at h; cases h
        | some f' =>
          rw [hf] at h
          exact range_wp hN hcl hn hps hf hr h hq
  | .refuse r, ρ, S, w, t, a, k, Q, hr, h, hq => by cases h
end Go.Proofs.YtgpbcnagaelhiaaGreat.Exe
namespace Go.Proofs.YtgpbcnagaelhiaaGreat.Exe
open Go
variable {base : Base} {w : World} {P : Program} {ρ : Rho} {S : AS} {t : T} {c : K} {z : AV × Option AS} {a : Act}

/-! ### Results -/
theorem run_loadVar_of {ty : TypeId} {p : List D4} {n m : Nat} {v : AV × Option AS} (hm : p = pathOf m) (hk : known P ty = true) (hn : n = sizeT P ty) (ht : TRel ρ t a) (hw : WRel base ρ S w) (h : kLoad (aggT P ty) n (.tmp p) t S (fun v S => some (v, some S)) = some v) :
    ∃ ad u, a.tmps.getD m undef = .pointer (some ad) ∧ (loadVar ty ad).run P w = .ok u w ∧ Den ρ v.1 u := by
  subst hm; subst hn
  obtain ⟨d, hd, hsz⟩ := known_some hk
  obtain ⟨b, off, hv, h⟩ := onPtr_some h
  obtain ⟨el, es, cs, hb, h⟩ := onCells_some h
  obtain ⟨v', hval, h⟩ := retO_some h
  cases h
  have hdx := ht m
  have hv : evTmp (pathOf m) t = .ptr b off := hv
  rw [hv] at hdx
  generalize hex : a.tmps.getD m undef = ex at hdx
  cases hdx with
  | @ptr _ _ r x' hρ =>
    obtain ⟨us, tail, fz, hh, hc, _, _⟩ := hw.cells hb hρ
    rcases valueK_some hc hval with ⟨ha, hlen, hden⟩ | ⟨ha, u, hu, hden, _⟩
    · obtain ⟨d', hd', hrow⟩ := aggT_true ha
      have hr := rangeAt_of hh off (sizeT P ty)
      have e1 : ((us ++ tail).drop off).take (sizeT P ty) = (us.drop off).take (sizeT P ty) := by
        rw [List.drop_append_of_le_length (by omega), List.take_append_of_le_length (by rw [List.length_drop]; omega)]
      rw [e1] at hr
      have hl : ((us.drop off).take (sizeT P ty)).length = sizeT P ty := by rw [List.length_take, List.length_drop]; omega
      exact ⟨_, _, rfl, run_loadVar_mid (P := P) w r off ty _ d' hr hd' hrow (by rw [hl]; exact hsz), hden⟩
    · have hcell : w.cell? ⟨r, off, none⟩ = some u := cell?_of hh (by rw [List.getElem?_append_left (by rcases Nat.lt_or_ge off us.length with h' | h'; exact h'; rw [List.getElem?_eq_none h'] at hu; cases hu)]; exact hu)
      exact ⟨_, u, rfl, by simp [loadVar, run_isAgg_false hd ha, load, Sem.run, hcell], hden⟩

theorem resK_cons (t : T) (S : AS) (p : List D4 × Option (Bool × Nat)) (l : List (List D4 × Option (Bool × Nat))) : resK t S (p :: l) = Option.rec (onSome (resK t S l) fun r => some (evTmp p.1 t :: r)) (fun q => onSome (kLoad q.1 q.2 (.tmp p.1) t S fun v S => some (v, some S)) fun v => onSome (resK t S l) fun r => some (v.1 :: r)) p.2 := rfl

def resOne (tmps : Array Value) : ResultVar → Sem Value
  | .tmp t => pure (tmps.getD t undef)
  | .cell ad t => do loadVar t (← asAddr (tmps.getD ad undef))
theorem results_list (ht : TRel ρ t a) (hw : WRel base ρ S w) : ∀ (l : List ResultVar) (vs : List AV), (l.all (fun r => match r with | .tmp _ => true | .cell _ t => known P t)) = true → resK t S (l.map fun | .tmp t => (pathOf t, none) | .cell a t => (pathOf a, some (aggT P t, sizeT P t))) = some vs →
    ∃ us, DenL ρ vs us ∧ (l.mapM (resOne a.tmps)).run P w = .ok us w
  | [], vs, _, h => by
    cases h
    exact ⟨[], .nil, rfl⟩
  | .tmp n :: l, vs, hk, h => by
    rw [List.map_cons, resK_cons] at h
    obtain ⟨r, hr, h⟩ := onSome_some (show onSome (resK t S _) (fun r => some (evTmp (pathOf n) t :: r)) = some vs from h)
    cases h
    obtain ⟨us, hd, hrun⟩ := results_list ht hw l r (by simpa using hk) hr
    refine ⟨a.tmps.getD n undef :: us, .cons (ht n) hd, ?_⟩
    rw [List.mapM_cons]
    simp [resOne, hrun]
  | .cell ad ty :: l, vs, hk, h => by
    rw [List.map_cons, resK_cons] at h
    obtain ⟨v, hv, h⟩ := onSome_some (show onSome (kLoad (aggT P ty) (sizeT P ty) (.tmp (pathOf ad)) t S fun v S => some (v, some S)) (fun v => onSome (resK t S _) fun r => some (v.1 :: r)) = some vs from h)
    obtain ⟨r, hr, h⟩ := onSome_some h
    cases h
    rw [List.all_cons, Bool.and_eq_true] at hk
    obtain ⟨us, hd, hrun⟩ := results_list ht hw l r hk.2 hr
    obtain ⟨adr, u, h1, h2, h3⟩ := run_loadVar_of (n := sizeT P ty) rfl hk.1 rfl ht hw hv
    refine ⟨u :: us, .cons h3 hd, ?_⟩
    rw [List.mapM_cons]
    simp [resOne, hrun, h1, h2, asAddr]

theorem oneK_den {vs : List AV} {us : List Value} (h : DenL ρ vs us) : Den ρ (oneK vs) (if h : us.toArray.size = 1 then us.toArray[0] else .tuple us.toArray) := by
  cases h with
  | nil => exact .tup .nil
  | @cons v u vs us hv h =>
    cases h with
    | nil => exact hv
    | @cons v2 u2 vs us hv2 h =>
      have : ¬ (u :: u2 :: us).toArray.size = 1 := by simp
      rw [dif_neg this]
      exact .tup (.cons hv (.cons hv2 h))

theorem results_run {fn : Func} (ht : TRel ρ t a) (hw : WRel base ρ S w) {vs : List AV} (hk : (fn.results.toList.all (fun r => match r with | .tmp _ => true | .cell _ t => known P t)) = true) (h : resK t S (fn.results.toList.map fun | .tmp t => (pathOf t, none) | .cell a t => (pathOf a, some (aggT P t, sizeT P t))) = some vs) :
    ∃ u, Den ρ (oneK vs) u ∧ (results fn a.tmps).run P w = .ok u w := by
  obtain ⟨us, hd, hrun⟩ := results_list ht hw _ _ hk h
  refine ⟨_, oneK_den hd, ?_⟩
  have e1 : results fn a.tmps = (do let vs ← fn.results.mapM (resOne a.tmps); pure (if h : vs.size = 1 then vs[0] else .tuple vs)) := by
    unfold results
    rfl
  rw [e1, Array.mapM_eq_mapM_toList]
  simp [hrun]

/-! ### Calls -/
theorem args_rel : ∀ (vs : List AV) (us : List Value) (n : Nat) (t : T) (f : Nat → Value), DenL ρ vs us → (∀ m, Den ρ (evTmp (pathOf m) t) (f m)) → ∀ m, Den ρ (evTmp (pathOf m) (argsK vs n t)) (if n ≤ m ∧ m < n + us.length then us.getD (m - n) undef else f m)
  | [], us, n, t, f, h, hf, m => by
    cases h
    rw [if_neg (by simp)]
    exact hf m
  | v :: vs, us, n, t, f, h, hf, m => by
    cases h with
    | @cons _ u _ us hv h =>
      show Den ρ (evTmp (pathOf m) (argsK vs (n + 1) (T.setP v (pathOf n) t))) _
      have ih := args_rel vs us (n + 1) (T.setP v (pathOf n) t) (fun m => if m = n then u else f m) h (fun m => by
        by_cases hm : m = n
        · subst hm; rw [evTmp_put, if_pos rfl]; exact hv
        · rw [evTmp_put_ne hm, if_neg hm]; exact hf m) m
      by_cases h1 : n + 1 ≤ m ∧ m < n + 1 + us.length
      · rw [if_pos h1] at ih
        rw [if_pos (by simp; omega)]
        obtain ⟨j, hj⟩ : ∃ j, m - n = j + 1 := ⟨m - n - 1, by omega⟩
        rw [hj]
        rw [show m - (n + 1) = j by omega] at ih
        exact ih
      · rw [if_neg h1] at ih
        by_cases hm : m = n
        · subst hm
          rw [if_pos rfl] at ih
          rw [if_pos (by simp), Nat.sub_self]
          exact ih
        · rw [if_neg hm] at ih
          rw [if_neg (by simp; omega)]
          exact ih
def FTOk (P : Program) (FT : PT AF) : Prop := ∀ g af, FT.getK g = some af → ∃ fn, P.funcs[g]? = some fn ∧ compFn P fn = some af

/-! ### The calls that were put off -/
theorem WRel.dfr (h : WRel base ρ S w) {b r x : Nat} (hb : S.heap.getK b = some (.dfr true)) (e : ρ b = some (r, x)) : w.heap[r]? = some (.deferred (some [])) := by
  obtain ⟨u, hu, ho⟩ := h.obj b _ r x hb e
  cases ho with
  | dfr => exact hu
theorem offK_cons (cl : Cl) (v : AV) (l : List AV) (S : AS) (k : AS → R) : offK cl (v :: l) S k = ifB (Nat.beq (nilNo v) 13) (onMap v fun b => onDfr S b fun d => ifB d (offK cl l (overK (putK S b (.dfr false)) b) k) none) (onFn v fun g as _ => cl (.dfn g) as S fun _ S => offK cl l S k) := rfl
theorem off_ok {cl : Cl} {fn : Func} {tmps : Array Value} {R' : Ending → World → Prop} (hN : NamesOk P) (hcl : ClOK P cl) : ∀ (l : List AV) (ds : List Deferred) (ρ : Rho) (S : AS) (w : World) (k : AS → R), DfRel ρ l ds → WRel base ρ S w → offK cl l S k = some z →
    (∀ S' ρ' w', k S' = some z → ρ.le ρ' → Keep ρ ρ' S S' → WRel base ρ' S' w' → ∃ v, (results fn tmps).run P w' = .ok v w' ∧ R' (.returned v) w') → LeavesInM (FW none) 0 P fn tmps R' ds .returning w
  | [], _, ρ, S, w, k, .nil, hw, h, hR => hR S ρ w h ρ.le_refl (.refl ρ S) hw
  | _ :: l, _, ρ, S, w, k, .mark (b := b) (r := r) e hr, hw, h, hR => by
    rw [offK_cons] at h
    obtain ⟨b', hb', h⟩ := onMap_some (show onMap (.map b) (fun b => onDfr S b fun d => ifB d (offK cl l (overK (putK S b (.dfr false)) b) k) none) = some z from h)
    cases hb'
    obtain ⟨d, hb, h⟩ := onDfr_some h
    obtain ⟨hd, h⟩ := ifB_some h
    subst hd
    have hh := hw.dfr hb e
    refine ⟨(by intro h; cases h), .inl ⟨r, w.putObj r (.deferred none), rfl, ?_, off_ok hN hcl l _ ρ _ _ k hr ((hw.put ⟨_, hb⟩ e .gone).del _) h fun S' ρ' w' h1 h2 h3 h4 => hR S' ρ' w' h1 h2 (((Keep.put e).trans (Keep.del e)).trans h3) h4⟩⟩
    simp [Instr.takeDeferred, getObj, setObj, Sem.run, hh, World.putObj]
  | _ :: l, _, ρ, S, w, k, .fn (g := g) (as := as) (us := us) (dargs := dargs) (cap := cap) ha hc hr, hw, h, hR => by
    rw [offK_cons] at h
    have h : cl (.dfn g) as S (fun _ S => offK cl l S k) = some z := h
    obtain ⟨hcalls, fnn, hfn, hb⟩ := hcl base ρ S w (.dfn g) as us _ z (fun
      | .returned _, w' => LeavesInM (FW none) 0 P fn tmps R' _ .returning w'
      | .panicked chain, w' => LeavesInM (FW none) 0 P fn tmps R' _ (raised .returning chain) w'
      | .outgrown, w' => R' .outgrown w') hw ha h (fun v S' ρ' w' u h1 h2 h3 h4 _ => off_ok hN hcl l _ ρ' S' w' k (hr.mono h2) h4 h1 fun S'' ρ'' w'' g1 g2 g3 g4 => hR S'' ρ'' w'' g1 (Rho.le_trans h2 g2) (h3.trans g3) g4)
    have hinv : (invoke (.fn (.func g) cap) dargs).run P w = .ok (.enter g us.toArray) w := by
      have := names_call (args := us.toArray) hfn (hN g fnn hfn) hb w
      rw [← this, ← hc]
      rfl
    refine ⟨(by intro h; cases h), .inr ⟨fun h => (by cases h), .func g, cap, g, us.toArray, rfl, hinv, fun _ _ => trivial, CallsDIn.mono (F := FW none) (n := 0) (hcalls .returning) fun e u' w' h => ?_⟩⟩
    obtain ⟨rfl, h⟩ := h
    cases e <;> exact h

/-! ### Rounds -/
theorem psK_cons (p : List D4) (ps : List (List D4)) (v : AV) (as : List AV) (t : T) (k : T → R) : psK (p :: ps) (v :: as) t k = psK ps as (t.setP v p) k := setTC_eq p v t _
theorem psK_some : ∀ (ps : List Tmp) (as : List AV) (us : List Value) (t : T) (tm : Array Value) (k : T → R), DenL ρ as us → (∀ p ∈ ps, p < tm.size) → (∀ m, Den ρ (evTmp (pathOf m) t) (tm.getD m undef)) → psK (ps.map pathOf) as t k = some z →
    us.length = ps.length ∧ ∃ t', k t' = some z ∧ t'.off = t.off ∧ (∀ m, Den ρ (evTmp (pathOf m) t') (((ps.zip us).foldl (fun tm p => tm.setIfInBounds p.1 p.2) tm).getD m undef)) ∧ ((ps.zip us).foldl (fun tm p => tm.setIfInBounds p.1 p.2) tm).size = tm.size
  | [], [], _, t, tm, k, .nil, _, ht, h => ⟨rfl, t, h, rfl, ht, rfl⟩
  | [], _ :: _, _, t, tm, k, .cons _ _, _, ht, h => by cases h
  | p :: ps, [], _, t, tm, k, .nil, _, ht, h => by cases h
  | p :: ps, v :: as, u :: us, t, tm, k, .cons hv hl, hp, ht, h => by
    rw [List.map_cons, psK_cons] at h
    have hlt : p < tm.size := hp p List.mem_cons_self
    obtain ⟨h1, t', h2, h3, h4, h5⟩ := psK_some ps as us (t.setP v (pathOf p)) (tm.setIfInBounds p u) k hl (fun q hq => by simpa using hp q (List.mem_cons_of_mem _ hq)) (fun m => by
      by_cases hm : m = p
      · subst hm
        rw [evTmp_put]
        simpa [Array.getD, hlt] using hv
      · rw [evTmp_put_ne hm, Array.getD_eq_getD_getElem?, Array.getElem?_setIfInBounds_ne (Ne.symm hm), ← Array.getD_eq_getD_getElem?]
        exact ht m) h
    refine ⟨by simpa using h1, t', h2, by rw [h3, off_setP], ?_, ?_⟩
    · exact h4
    · rw [List.zip_cons_cons, List.foldl_cons, h5]; simp

theorem run_yield {w : World} {r : Nat} {l : Loop} {us : List Value} (h : w.heap[r]? = some (.loop l)) (hs : us.length = l.params.toList.length) :
    (Instr.yield r us.toArray).run P w = .ok (.round r l.fn ((l.params.toList.zip us).foldl (fun tm p => tm.setIfInBounds p.1 p.2) l.tmps) l.assign l.body) w := by
  have h1 : ¬ (us.toArray.size ≠ l.params.size) := by simpa using hs
  have h2 : (l.params.zip us.toArray).foldl (fun tm (p : Tmp × Value) => tm.setIfInBounds p.1 p.2) l.tmps = (l.params.toList.zip us).foldl (fun tm p => tm.setIfInBounds p.1 p.2) l.tmps := by
    rw [← Array.foldl_toList]
    simp
  simp only [Instr.yield, Sem.run_bind, run_getLoop h, Result.andThen_ok]
  rw [if_neg h1]
  simp only [Sem.run_pure]
  rw [← h2]
theorem run_beginRound {w : World} {r : Nat} {l : Loop} (h : w.heap[r]? = some (.loop l)) (hs : stNo l.state = 0) : (Instr.beginRound r).run P w = .ok () (w.putObj r (.loop { l with state := .busy })) := by
  obtain ⟨st, pe, fn, tmps, params, assign, body, defers⟩ := l
  cases st with
  | ready => simp [Instr.beginRound, run_getLoop h, run_setLoop _ h]
  | _ => cases hs
theorem run_endRound {w : World} {r : Nat} {l : Loop} (h : w.heap[r]? = some (.loop l)) (j : Option Code) : (Instr.endRound r j).run P w = .ok (.bool j.isNone) (w.putObj r (.loop { l with state := if j.isNone then .ready else .done, pending := j })) := by
  simp [Instr.endRound, run_getLoop h, run_setLoop _ h]

/-! ### Calls whose answers are known ahead -/
noncomputable def pureV (v : AV) : Bool :=
  AV.rec (motive_1 := fun _ => Bool) (motive_2 := fun _ => Bool) (fun _ => true) (fun _ _ => true) (fun _ => true) true (fun _ _ => false) true (fun _ _ _ _ _ => false) true (fun _ => false) true (fun _ _ _ i1 i2 => ifB i1 i2 false) true (fun _ _ i => i) (fun _ i => i) (fun _ _ => true) (fun _ i => i) false (fun _ => false) false (fun _ _ => false) (fun _ => false) true (fun _ _ i1 i2 => ifB i1 i2 false) v
noncomputable def pureL (l : List AV) : Bool := pureV (.tup l)
theorem pureL_cons {v : AV} {l : List AV} (h : pureL (v :: l) = true) : pureV v = true ∧ pureL l = true := ifB_bool (show ifB (pureV v) (pureL l) false = true from h)
mutual
theorem Den.pure {ρ σ : Rho} {v : AV} {u : Value} (h : pureV v = true) (d : Den ρ v u) : Den σ v u := by
  cases d with
  | bool b => exact .bool b
  | int k n => exact .int k n
  | str s => exact .str s
  | pnil => exact .pnil
  | ptr e => cases h
  | snil => exact .snil
  | sl e => cases h
  | sl0 e => cases h
  | mnil => exact .mnil
  | map e => cases h
  | fnil => exact .fnil
  | @fn f a c a' c' x y =>
    obtain ⟨h1, h2⟩ := ifB_bool (show ifB (pureL a) (pureL c) false = true from h)
    exact .fn (x.pure h1) (y.pure h2)
  | inil => exact .inil
  | ifc a => exact .ifc (a.pure h)
  | agg a => exact .agg (a.pure h)
  | tup a => exact .tup (a.pure h)
  | junk => cases h
  | yl e => cases h
  | raw r o => cases h
  | lit e e' => cases h
  | any e e' => cases h
theorem DenL.pure {ρ σ : Rho} {v : List AV} {u : List Value} (h : pureL v = true) (d : DenL ρ v u) : DenL σ v u := by
  cases d with
  | nil => exact .nil
  | cons a b => exact .cons (a.pure (pureL_cons h).1) (b.pure (pureL_cons h).2)
theorem Cells.pure {ρ σ : Rho} {v : List AV} {u : List Value} (h : pureL v = true) (d : Cells ρ v u) : Cells σ v u := by
  cases d with
  | nil => exact .nil
  | bytes a => exact .bytes (a.pure (pureL_cons h).2)
  | one o a b => exact .one o (a.pure (pureL_cons h).1) (b.pure (pureL_cons h).2)
end
/-- A world that has grown by what nobody of ours knows of. -/
structure Grown (w w' : World) : Prop where
  low : ∀ r, r < w.heap.size → w'.heap[r]? = w.heap[r]?
  size : w.heap.size ≤ w'.heap.size
  os : w'.os = w.os
  output : w'.output = w.output
  tape : w'.tape = w.tape
theorem WRel.grown (h : WRel base ρ S w) {w' : World} (g : Grown w w') : WRel base ρ S w' :=
  { low := fun r hr ho => by rw [g.low r (Nat.lt_of_lt_of_le hr h.size)]; exact h.low r hr ho, size := Nat.le_trans h.size g.size, os := g.os.trans h.os, output := g.output.trans h.output, tape := g.tape.trans h.tape, dom := h.dom, rng := fun b r x e => ⟨(h.rng b r x e).1, Nat.lt_of_lt_of_le (h.rng b r x e).2 g.size⟩, inj := h.inj, obj := fun b o r x hb e => by
      obtain ⟨u, hu, ho⟩ := h.obj b o r x hb e
      exact ⟨u, by rw [g.low r (h.rng b r x e).2]; exact hu, ho⟩ }
def MemoOK (P : Program) (tab : Memo) : Prop := ∀ g xs v, (g, xs, v) ∈ tab → pureL xs = true ∧ ∀ us, DenL (fun _ => none) xs us → (∃ fn, P.funcs[g]? = some fn ∧ fn.body.isNone = false) ∧
  ∀ w, CallsIn (FW none) 0 P g us.toArray w fun e w' => ∃ u, e = .returned u ∧ Den (fun _ => none) v u ∧ Grown w w'
theorem hitK_some {tab : Memo} {g : FuncId} {as : List AV} {k : AV → R} {miss : R} (h : hitK tab g as k miss = some z) : miss = some z ∨ ∃ v, (g, as, v) ∈ tab ∧ k v = some z := by
  induction tab with
  | nil => exact .inl h
  | cons e tab ih =>
    obtain ⟨f, xs, v⟩ := e
    have h : ifB (Nat.beq f g) (ifB (sameV (.tup xs) (.tup as)) (k v) (hitK tab g as k miss)) (hitK tab g as k miss) = some z := h
    rcases ifB_or h with ⟨h1, h⟩ | ⟨_, h⟩
    · rcases ifB_or h with ⟨h2, h3⟩ | ⟨_, h⟩
      · have e1 := beq_true h1
        have e2 : xs = as := by
          have := sameV_eq _ _ h2
          injection this
        rw [e1, e2]
        exact .inr ⟨v, List.mem_cons_self, h3⟩
      · exact (ih h).imp id fun ⟨v, h1, h2⟩ => ⟨v, List.mem_cons_of_mem _ h1, h2⟩
    · exact (ih h).imp id fun ⟨v, h1, h2⟩ => ⟨v, List.mem_cons_of_mem _ h1, h2⟩

/-- Functions without a body: what ours does they do. -/
def ExtOK (P : Program) (l : List (Nat × XF)) : Prop := ∀ g f, (g, f) ∈ l → ∀ (base : Base) (ρ : Rho) (S : AS) (w : World) (xs : List AV) (us : List Value) (k : K) (z : AV × Option AS), WRel base ρ S w → DenL ρ xs us → f xs S k = some z →
  ∃ v S' ρ' w' u, k v S' = some z ∧ ρ.le ρ' ∧ Keep ρ ρ' S S' ∧ WRel base ρ' S' w' ∧ Den ρ' v u ∧ (callFunc g us.toArray).run P w = .ok (.value u) w'
theorem ext_nil : ExtOK P [] := fun _ _ h => by cases h
/-- Functions with a body whose answers are known. -/
def RfOK (P : Program) (g : Nat) (f : RF) : Prop := ∀ (base : Base) (ρ : Rho) (S : AS) (w : World) (xs : List AV) (us : List Value) (k : K) (miss : R) (z : AV × Option AS) (R : Ending → World → Prop), WRel base ρ S w → DenL ρ xs us → f xs S k miss = some z →
  (∀ v S' ρ' w' u, k v S' = some z → ρ.le ρ' → Keep ρ ρ' S S' → WRel base ρ' S' w' → Den ρ' v u → R (.returned u) w') → miss = some z ∨ CEOK P ρ (.fn g) us w R
def RecsOK (P : Program) (l : List (Nat × RF)) : Prop := ∀ g f, (g, f) ∈ l → RfOK P g f
theorem recs_nil : RecsOK P [] := fun _ _ h => by cases h
theorem recs_cons {g : Nat} {f : RF} {l : List (Nat × RF)} (h : RfOK P g f) (hl : RecsOK P l) : RecsOK P ((g, f) :: l) := fun g' f' hm => by
  rcases List.mem_cons.1 hm with hm | hm
  · cases hm; exact h
  · exact hl g' f' hm
theorem recK_some {l : List (Nat × RF)} (hl : RecsOK P l) {base : Base} {g : Nat} {ρ : Rho} {S : AS} {w : World} {xs : List AV} {us : List Value} {k : K} {miss : R} {R : Ending → World → Prop} (hw : WRel base ρ S w) (hx : DenL ρ xs us) (h : recK l g xs S k miss = some z)
    (hR : ∀ v S' ρ' w' u, k v S' = some z → ρ.le ρ' → Keep ρ ρ' S S' → WRel base ρ' S' w' → Den ρ' v u → R (.returned u) w') : miss = some z ∨ CEOK P ρ (.fn g) us w R := by
  induction l with
  | nil => exact .inl h
  | cons e l ih =>
    have ih := ih (fun g f hm => hl g f (List.mem_cons_of_mem _ hm))
    rcases ifB_or (show ifB (Nat.beq e.1 g) (e.2 xs S k (recK l g xs S k miss)) (recK l g xs S k miss) = some z from h) with ⟨h1, h2⟩ | ⟨_, h2⟩
    · have h1 : e.1 = g := beq_true h1
      have he : RfOK P g e.2 := by rw [← h1]; exact hl e.1 e.2 List.mem_cons_self
      rcases he base ρ S w xs us k _ z R hw hx h2 hR with h3 | h3
      · exact ih h3
      · exact .inr h3
    · exact ih h2
/-- What a run is given is as it should be. -/
structure OptOK (P : Program) (tab : Opt) : Prop where
  all : tab.first = false
  ext : ExtOK P tab.ext
  recs : RecsOK P tab.recs
theorem extK_some {l : List (Nat × XF)} {g : Nat} {xs : List AV} {k : K} {miss : R} (h : extK l g xs S k miss = some z) : miss = some z ∨ ∃ f, (g, f) ∈ l ∧ f xs S k = some z := by
  induction l with
  | nil => exact .inl h
  | cons e l ih =>
    rcases ifB_or (show ifB (Nat.beq e.1 g) (e.2 xs S k) (extK l g xs S k miss) = some z from h) with ⟨h1, h2⟩ | ⟨_, h2⟩
    · refine .inr ⟨e.2, ?_, h2⟩
      rw [← beq_true h1]
      exact List.mem_cons_self
    · exact (ih h2).imp id fun ⟨f, a, b⟩ => ⟨f, List.mem_cons_of_mem _ a, b⟩
theorem call_ok {FT : PT AF} {tab : Opt} {ag : Ag} {cl : Cl} {m : Nat} (n1 : Nat) (hX : OptOK P tab) (hM : MemoOK P tab.memo) (hF : FTOk P FT) (hm : P.follows .mixedOrders = true) (hN : NamesOk P) (hcl : ClOK P cl) (hag : AgOK P ag m) : ClOK P (callOf FT (comp P true) tab n1 ag cl) := by
  intro base ρ S w e args us k z R hw hl h hR
  have start : ∀ (n : Nat), TRel ρ (argsK args 0 T.nil) { tmps := us.toArray ++ Array.replicate (n - us.toArray.size) undef, defers := [] } := fun n => fun m => by
    have := args_rel args us 0 T.nil (fun _ => undef) hl (fun m => by rw [nil_get]; exact .junk _) m
    have e2 : (us.toArray ++ Array.replicate (n - us.toArray.size) undef).getD m undef = if 0 ≤ m ∧ m < 0 + us.length then us.getD (m - 0) undef else undef := by
      by_cases hn : m < us.length
      · rw [if_pos (by omega), Array.getD_eq_getD_getElem?, Array.getElem?_append_left (by simpa using hn)]
        simp
      · rw [if_neg (by omega), Array.getD_eq_getD_getElem?, Array.getElem?_append_right (by simpa using hn), Array.getElem?_replicate]
        split <;> rfl
    show Den ρ _ ((us.toArray ++ Array.replicate (n - us.toArray.size) undef).getD m undef)
    rw [e2]
    exact this
  have off0 : ∀ (vs : List AV) (n : Nat) (t : T), (argsK vs n t).off = t.off := fun vs => by
    induction vs with
    | nil => exact fun n t => rfl
    | cons v vs ih => exact fun n t => (ih (Nat.succ n) (t.setP v (pathOf n))).trans (off_setP v _ t)
  have hfnOf : ∀ g : FuncId, fnOf FT tab n1 ag cl g args S k = some z → CEOK P ρ (.fn g) us w R := by
    intro g h
    have h : hitK tab.memo g args (fun v => k v S) (recK tab.recs g args S k (mergeK tab.mg g (tab.guess n1 (.fn g) args S) (callFn FT ag cl g args S) S k)) = some z := h
    rcases hitK_some h with h | ⟨v, hmem, h⟩
    case inr =>
      obtain ⟨hp, hc⟩ := hM g args v hmem
      obtain ⟨hfn, hc⟩ := hc us (hl.pure hp)
      refine ⟨CallsIn.mono (hc w) fun e w' he => ?_, hfn⟩
      obtain ⟨u, rfl, hu, hg⟩ := he
      exact hR v S ρ w' u h ρ.le_refl (.refl ρ S) (hw.grown hg) (hu.mono fun _ _ h => by cases h)
    have key : ∀ (k : K) (z : AV × Option AS), callFn FT ag cl g args S k = some z → (∀ v S' ρ' w' u, k v S' = some z → ρ.le ρ' → Keep ρ ρ' S S' → WRel base ρ' S' w' → Den ρ' v u → R (.returned u) w') → CEOK P ρ (.fn g) us w R := by
      intro k z h hR
      rw [callFn_eq] at h
      obtain ⟨af, haf, h⟩ := onSome_some h
      obtain ⟨fn, hfn, hc⟩ := hF g af haf
      obtain ⟨c, hb, hc⟩ := bind_some hc
      obtain ⟨hk, hc⟩ := bif_some hc
      cases hc
      refine ⟨callsIn_of_wp_marks hfn hb trivial ?_, fn, hfn, by rw [hb]; rfl⟩
      let a0 : Act := { tmps := us.toArray ++ Array.replicate (fn.ntmps - us.toArray.size) undef, defers := [] }
      have hsz : fn.ntmps ≤ a0.tmps.size := by show _ ≤ (us.toArray ++ Array.replicate _ _).size; simp; omega
      have hdf : DfRel ρ (argsK args 0 T.nil).off a0.defers := by rw [off0]; exact .nil
      refine code_wp (N := a0.tmps.size) (ro := none) (rd := false) hm hN hcl hag (.inl rfl) hsz c ρ S w _ a0 _ _ ⟨hw, start _, hdf, rfl⟩ h fun x t' S' ρ' a' w' h1 h2 h3 h4 => ?_
      have fin : offK cl t'.off S' (fun S => endK _ k t' S) = some z → LeavesInM (FW none) 0 P fn a'.tmps R a'.defers .returning w' := fun h => by
        refine off_ok hN hcl _ _ ρ' S' w' _ h4.defers h4.world h fun S'' ρ'' w'' g1 g2 g3 g4 => ?_
        obtain ⟨vs, hvs, g1⟩ := onSome_some g1
        obtain ⟨u, hu, hrun⟩ := results_run (h4.tmps.mono g2) g4 hk hvs
        exact ⟨u, hrun, hR _ _ _ _ _ g1 (Rho.le_trans h2 g2) (h3.trans g3) g4 hu⟩
      cases x with
      | normal => exact fin h1
      | ret => exact fin h1
      | exit i => cases h1
    rcases recK_some hX.recs hw hl h hR with h | h
    case inr => exact h
    rcases mergeK_some h with h | ⟨v2, S2, h1, h2⟩
    · exact key k z h hR
    · refine key _ _ h1 fun v S' ρ' w' u g1 g2 g3 g4 g5 => ?_
      obtain ⟨ms, hms⟩ := matchK_some g1
      obtain ⟨ρ2, r1, r2, r3, r4⟩ := match_ok hw hms g2 g3 g4 g5
      exact hR v2 S2 ρ2 w' u h2 r1 r2 r3 r4
  cases e with
  | fn g => exact hfnOf g h
  | xfn g =>
    rcases extK_some (show extK tab.ext g args S k (fnOf FT tab n1 ag cl g args S k) = some z from h) with h | ⟨f, hf, h⟩
    · exact .inl (hfnOf g h)
    · obtain ⟨v, S', ρ', w', u, h1, h2, h3, h4, h5, h6⟩ := hX.ext g f hf base ρ S w args us k z hw hl h
      exact .inr ⟨u, w', h6, hR v S' ρ' w' u h1 h2 h3 h4 h5⟩
  | nx =>
    have h : nxK tab.first args S k = some z := h
    rw [hX.all] at h
    obtain ⟨v, ha, h⟩ := on1_some h
    rw [ha] at hl
    cases hl with
    | cons d dn =>
      cases dn
      obtain ⟨v1, S', ρ', w', u, h1, h2, h3, h4, h5, h6⟩ := next_ok (P := P) d hw (show nextV v S k = some z from h)
      exact ⟨u, w', h6, hR v1 S' ρ' w' u h1 h2 h3 h4 h5⟩
  | dfn g =>
    have h : callDfn FT ag cl g args S k = some z := h
    rw [callDfn_eq] at h
    obtain ⟨af, haf, h⟩ := onSome_some h
    obtain ⟨fn, hfn, hc⟩ := hF g af haf
    obtain ⟨c, hb, hc⟩ := bind_some hc
    obtain ⟨hk, hc⟩ := bif_some hc
    cases hc
    refine ⟨fun u => callsDIn_of_wp hfn hb trivial ?_, fn, hfn, by rw [hb]; rfl⟩
    let a0 : Act := { tmps := us.toArray ++ Array.replicate (fn.ntmps - us.toArray.size) undef, defers := [] }
    have hsz : fn.ntmps ≤ a0.tmps.size := by show _ ≤ (us.toArray ++ Array.replicate _ _).size; simp; omega
    have hdf : DfRel ρ (argsK args 0 T.nil).off a0.defers := by rw [off0]; exact .nil
    refine code_wp (N := a0.tmps.size) (ro := none) (rd := false) hm hN hcl hag (.inl rfl) hsz c ρ S w _ a0 _ _ ⟨hw, start _, hdf, rfl⟩ h fun x t' S' ρ' a' w' h1 h2 h3 h4 => ?_
    have fin : goneK t'.off (endK _ k t' S') = some z → a'.defers = [] ∧ ∃ v, (results fn a'.tmps).run P w' = .ok v w' ∧ R (.returned v) w' := fun h => by
      have h4d := h4.defers
      cases ho : t'.off with
      | nil =>
        rw [ho] at h h4d
        obtain ⟨vs, hvs, g1⟩ := onSome_some (show endK _ k t' S' = some z from h)
        obtain ⟨u, hu, hrun⟩ := results_run h4.tmps h4.world hk hvs
        generalize hds : a'.defers = ds at h4d
        cases h4d
        exact ⟨rfl, u, hrun, hR _ _ _ _ _ g1 h2 h3 h4.world hu⟩
      | cons v vs => rw [ho] at h; cases h
    cases x with
    | normal => exact fin h1
    | ret => exact fin h1
    | exit i => cases h1
  | yl b =>
    have h : callYl (comp P true) ag cl b args S k = some z := h
    obtain ⟨st, pe, t, ps, asg, c, n, hb, h⟩ := onLoop_some h
    obtain ⟨hst, h⟩ := ifB_some h
    have hst := beq_true hst
    intro r x hρ
    obtain ⟨l, hh, a1, a2, a3, a4, a5, a6, a7, a8⟩ := hw.loop hb hρ
    subst a4
    obtain ⟨hlen, t', h, hoff, htm, hsize⟩ := psK_some (ρ := ρ) (z := z) l.params.toList args us t.clean l.tmps _ hl (fun p hp => Nat.lt_of_lt_of_le (a5 p (by simpa using hp)) a8) (fun m => by rw [evTmp_clean]; exact a3 m) h
    refine ⟨_, _, _, _, run_yield hh hlen, roundIn_of_wpIn trivial ?_⟩
    have hdf : DfRel ρ t'.off [] := by rw [hoff]; exact .nil
    rw [a6]
    refine code_wp (N := l.tmps.size) (ro := some r) (rd := true) hm hN hcl hag (.inr rfl) a8 asg ρ S w t' { tmps := (l.params.toList.zip us).foldl (fun tm p => tm.setIfInBounds p.1 p.2) l.tmps, defers := [] } _ _ ⟨hw, htm, hdf, hsize⟩ h fun y t1 S1 ρ1 a1' w1 g1 g2 g3 g4 => ?_
    cases y with
    | ret => cases g1
    | exit i => cases g1
    | normal =>
    obtain ⟨st1, pe1, t9, ps1, asg1, c1, n1, hb1, g1⟩ := onLoop_some (show onLoop S1 b _ = some z from g1)
    obtain ⟨hst1, g1⟩ := ifB_some g1
    have hst1 := beq_true hst1
    have hρ1 := g2 _ _ hρ
    obtain ⟨l1, hh1, e1, e2, e3, e4, e5, e6, e7, e8⟩ := g4.world.loop hb1 hρ1
    have hput : WRel base ρ1 (putK S1 b (.loop 1 pe1 t9 ps1 asg1 c1 n1)) (w1.putObj r (.loop { l1 with state := .busy })) := g4.world.put ⟨_, hb1⟩ hρ1 (ORel.loop (x := x) (r := { l1 with state := .busy }) rfl e2 e3 e4 e5 e6 e7 e8)
    refine ⟨_, run_beginRound hh1 (e1.trans hst1), ?_⟩
    rw [a7]
    refine code_wp (N := l.tmps.size) (ro := some r) (rd := true) hm hN hcl hag (.inr rfl) a8 c ρ1 _ _ t1 a1' _ _ ⟨hput, g4.tmps, g4.defers, g4.size⟩ g1 fun y t'' S' ρ' a' w' h1 h2 h3 h4 => ?_
    obtain ⟨st', pe', t2, ps', asg', c', n', hb', h1⟩ := onLoop_some (show onLoop S' b _ = some z from h1)
    obtain ⟨hst', h1⟩ := ifB_some h1
    have hρ' := h2 _ _ hρ1
    obtain ⟨l', hh', b1, b2, b3, b4, b5, b6, b7, b8⟩ := h4.world.loop hb' hρ'
    have hk : Keep ρ ρ' S S' := g3.trans ((Keep.put hρ1).trans h3)
    have hle := Rho.le_trans g2 h2
    cases y with
    | normal =>
      refine ⟨_, _, run_endRound hh' none, ?_⟩
      refine hR _ _ ρ' _ _ h1 hle (hk.trans (.put hρ')) (h4.world.put ⟨_, hb'⟩ hρ' (ORel.loop (x := x) (r := { l' with state := .ready, pending := none }) rfl rfl b3 b4 b5 b6 b7 b8)) (.bool _)
    | ret =>
      refine ⟨_, _, run_endRound hh' (some .ret), ?_⟩
      refine hR _ _ ρ' _ _ h1 hle (hk.trans (.put hρ')) (h4.world.put ⟨_, hb'⟩ hρ' (ORel.loop (x := x) (r := { l' with state := .done, pending := some .ret }) rfl rfl b3 b4 b5 b6 b7 b8)) (.bool _)
    | exit i =>
      refine ⟨_, _, run_endRound hh' (some (.exit i)), ?_⟩
      refine hR _ _ ρ' _ _ h1 hle (hk.trans (.put hρ')) (h4.world.put ⟨_, hb'⟩ hρ' (ORel.loop (x := x) (r := { l' with state := .done, pending := some (.exit i) }) rfl rfl b3 b4 b5 b6 b7 b8)) (.bool _)

theorem both_ok {FT : PT AF} {tab : Opt} (hX : OptOK P tab) (hM : MemoOK P tab.memo) (hF : FTOk P FT) (hm : P.follows .mixedOrders = true) (hN : NamesOk P) : ∀ n, AgOK P (both FT (comp P true) tab n).1 n ∧ ClOK P (both FT (comp P true) tab n).2
  | 0 => ⟨fun _ _ _ _ _ _ _ _ _ _ _ _ _ _ _ _ _ h => (by cases h), fun _ _ _ _ _ _ _ _ _ _ _ _ h => (by cases h)⟩
  | n + 1 => by
    obtain ⟨h1, h2⟩ := both_ok hX hM hF hm hN n
    refine ⟨fun ro rd k N base b ρ S w t a kx z Q hro hn hr h hq => ?_, call_ok n hX hM hF hm hN h2 h1⟩
    exact loop_round hro h1 hn (code_wp hm hN h2 h1 hro hn b) hr h hq

/-! ### The table -/
theorem tabOf_get : ∀ (l : List Func) (n : Nat) (t : PT AF) (g : Nat) (af : AF), (tabOf P l n t).getK g = some af → t.getK g = some af ∨ ∃ i fn, g = n + i ∧ l[i]? = some fn ∧ compFn P fn = some af
  | [], n, t, g, af, h => .inl h
  | f :: l, n, t, g, af, h => by
    have h : (tabOf P l (n + 1) (Option.rec t (fun a => t.setK (some a) n) (compFn P f))).getK g = some af := h
    rcases tabOf_get l (n + 1) _ g af h with h1 | ⟨i, fn, h1, h2, h3⟩
    · cases hc : compFn P f with
      | none => rw [hc] at h1; exact .inl h1
      | some a =>
        rw [hc] at h1
        rcases PT.getK_setK _ _ _ h1 with ⟨e1, e2⟩ | ⟨_, e2⟩
        · exact .inr ⟨0, f, e1, rfl, by rw [hc]; exact e2⟩
        · exact .inl e2
    · exact .inr ⟨i + 1, fn, by omega, by simpa using h2, h3⟩
theorem tabOf_ok : FTOk P (tabOf P P.funcs.toList 0 .nil) := fun g af h => by
  rcases tabOf_get _ _ _ _ _ h with h1 | ⟨i, fn, h1, h2, h3⟩
  · cases h1
  · subst h1
    exact ⟨fn, by rw [Nat.zero_add, ← Array.getElem?_toList]; exact h2, h3⟩

noncomputable def start : AS := { heap := .nil, next := 0 }
theorem start_rel (w : World) : WRel (Base.of w) (fun _ => none) start w :=
  { low := fun _ _ _ => rfl, size := Nat.le_refl _, os := rfl, output := rfl, tape := rfl, dom := fun _ _ => rfl, rng := fun _ _ _ h => (by cases h), inj := fun _ _ _ _ _ _ _ h _ => (by cases h), obj := fun _ _ _ _ _ h => (by cases h) }
/-- What is asked of a run's end: this value. -/
noncomputable def pin (v0 : AV) : K := fun v _ => ifB (sameV v v0) (some (.bool true, none)) none
/-- What is asked of a run's end: true. -/
noncomputable def fin : K := fun v _ => onBool v fun b => ifB b (some (.bool true, none)) none
section
variable {tab : Opt} (hX : OptOK P tab) (hM : MemoOK P tab.memo) (hm : P.follows .mixedOrders = true) (hN : NamesOk P)
include hX hM hm hN
/-- **What our machine says of a call, the call does**: the arguments are such as denote what is handed in, in no block of ours (.junk: whatever it is). -/
theorem exec_args {g : FuncId} {n : Nat} {xs : List AV} {us : List Value} (hx : DenL (fun _ => none) xs us) (h : sndK (both (tabOf P P.funcs.toList 0 .nil) (comp P true) tab n) (.fn g) xs start fin = some (.bool true, none)) (w : World) :
    Calls P g us.toArray w fun e w' => (e = .returned (.bool true)) ∧ (∀ r, r < w.heap.size → w'.heap[r]? = w.heap[r]?) ∧ w.heap.size ≤ w'.heap.size ∧ w'.os = w.os ∧ w'.output = w.output ∧ w'.tape = w.tape :=
  callsIn_wide.1 ((both_ok hX hM tabOf_ok hm hN n).2 (Base.of w) _ _ w (.fn g) xs us _ _ _ (start_rel w) hx h fun v S' ρ' w' u h1 _ _ h4 h5 => by
    obtain ⟨b, hb, h1⟩ := onBool_some (show onBool v (fun b => ifB b (some ((.bool true : AV), none)) none) = some (.bool true, none) from h1)
    obtain ⟨hb', _⟩ := ifB_some h1
    rw [hb, hb'] at h5
    cases h5
    exact ⟨rfl, fun r hr => h4.low r hr (fun h => h), h4.size, h4.os, h4.output, h4.tape⟩).1
/-- **What our machine says of a function without arguments, its run does.** -/
theorem exec {g : FuncId} {n : Nat} (h : sndK (both (tabOf P P.funcs.toList 0 .nil) (comp P true) tab n) (.fn g) [] start fin = some (.bool true, none)) (w : World) :
    Calls P g #[] w fun e w' => (e = .returned (.bool true)) ∧ (∀ r, r < w.heap.size → w'.heap[r]? = w.heap[r]?) ∧ w.heap.size ≤ w'.heap.size ∧ w'.os = w.os ∧ w'.output = w.output ∧ w'.tape = w.tape :=
  exec_args hX hM hm hN (us := []) .nil h w
/-- One more call whose answer is known. -/
theorem exec_memo {g : FuncId} {n : Nat} {xs : List AV} {v : AV} (hp : pureL (v :: xs) = true) (h : sndK (both (tabOf P P.funcs.toList 0 .nil) (comp P true) tab n) (.fn g) xs start (pin v) = some (.bool true, none)) : MemoOK P ((g, xs, v) :: tab.memo) := fun g' xs' v' hmem => by
  rcases List.mem_cons.1 hmem with hmem | hmem
  · cases hmem
    refine ⟨(pureL_cons hp).2, fun us hx => ?_⟩
    have hc := fun w => (both_ok hX hM tabOf_ok hm hN n).2 (Base.of w) _ _ w (.fn g) xs us _ _ (fun e w' => ∃ u, e = .returned u ∧ Den (fun _ => none) v u ∧ Grown w w') (start_rel w) hx h fun v1 S' ρ' w' u h1 _ _ h4 h5 => by
      obtain ⟨hs, _⟩ := ifB_some (show ifB (sameV v1 v) (some ((.bool true : AV), none)) none = some (.bool true, none) from h1)
      rw [sameV_eq _ _ hs] at h5
      exact ⟨u, rfl, h5.pure (pureL_cons hp).1, ⟨fun r hr => h4.low r hr (fun h => h), h4.size, h4.os, h4.output, h4.tape⟩⟩
    exact ⟨(hc default).2, fun w => (hc w).1⟩
  · exact hM g' xs' v' hmem
end
theorem memo_nil : MemoOK P [] := fun _ _ _ h => by cases h
end Go.Proofs.YtgpbcnagaelhiaaGreat.Exe
namespace Go.Proofs.YtgpbcnagaelhiaaGreat.Exe
open Go
variable {P : Program}

/-! ### The same of the machine that the kernel runs -/
section
variable {tab : Opt} (hX : OptOK P tab) (hM : MemoOK P tab.memo) (hm : P.follows .mixedOrders = true) (hN : NamesOk P)
include hX hM hm hN
theorem execF_args {g : FuncId} {n : Nat} {xs : List AV} {us : List Value} (hx : DenL (fun _ => none) xs us) (h : sndF (bothF (tabOf P P.funcs.toList 0 .nil) (comp P true) tab n) (.fn g) xs start fin = some (.bool true, none)) (w : World) :
    Calls P g us.toArray w fun e w' => (e = .returned (.bool true)) ∧ (∀ r, r < w.heap.size → w'.heap[r]? = w.heap[r]?) ∧ w.heap.size ≤ w'.heap.size ∧ w'.os = w.os ∧ w'.output = w.output ∧ w'.tape = w.tape :=
  exec_args (n := n) hX hM hm hN hx (by rw [← sndF_eq]; exact h) w
theorem execF {g : FuncId} {n : Nat} (h : sndF (bothF (tabOf P P.funcs.toList 0 .nil) (comp P true) tab n) (.fn g) [] start fin = some (.bool true, none)) (w : World) :
    Calls P g #[] w fun e w' => (e = .returned (.bool true)) ∧ (∀ r, r < w.heap.size → w'.heap[r]? = w.heap[r]?) ∧ w.heap.size ≤ w'.heap.size ∧ w'.os = w.os ∧ w'.output = w.output ∧ w'.tape = w.tape :=
  exec (n := n) hX hM hm hN (by rw [← sndF_eq]; exact h) w
theorem execF_memo {g : FuncId} {n : Nat} {xs : List AV} {v : AV} (hp : pureL (v :: xs) = true) (h : sndF (bothF (tabOf P P.funcs.toList 0 .nil) (comp P true) tab n) (.fn g) xs start (pin v) = some (.bool true, none)) : MemoOK P ((g, xs, v) :: tab.memo) :=
  exec_memo (n := n) hX hM hm hN hp (by rw [← sndF_eq]; exact h)
end

/-! ### What is handed in and not looked at -/
theorem okWide_one {w : World} {r : Reach} {base : Nat} {t : TypeId} {v : Value} (h : Cell.okWide P w r base t v) : v.cells = #[v] ∧ v.oneCell' = true := by
  cases v <;> first | exact ⟨rfl, rfl⟩ | skip
  all_goals
    exfalso
    unfold Cell.okWide at h
    split at h <;> first | contradiction | skip
    unfold Cell.ok at h
    split at h <;> first | contradiction | exact h
theorem anyCells {ρ : Rho} : ∀ us : List Value, (∀ v ∈ us, v.cells = #[v] ∧ v.oneCell' = true) → Cells ρ (List.replicate us.length .any) us
  | [], _ => .nil
  | v :: us, h => .one rfl (.any (h v List.mem_cons_self).1 (h v List.mem_cons_self).2) (anyCells us fun x hx => h x (List.mem_cons_of_mem _ hx))
theorem struct_any {w : World} {r : Reach} {base : Nat} {t : TypeId} {v : Value} {fs : Array Field} (hu : P.underlying t = some (.struct fs)) (h : Value.okWide P w r base t v) : ∃ cs, v = .agg cs ∧ Cells (fun _ => none) (List.replicate (P.cellsOf t) .any) cs.toList := by
  simp only [Value.okWide, hu] at h
  obtain ⟨cs, rfl, h2, ts, _, _, h3⟩ := h
  refine ⟨cs, rfl, ?_⟩
  rw [← h2, ← Array.length_toList]
  refine anyCells cs.toList fun v hv => ?_
  obtain ⟨i, hi⟩ := List.mem_iff_getElem?.1 hv
  obtain ⟨u, _, hc⟩ := h3 i v (by rw [← Array.getElem?_toList]; exact hi)
  exact okWide_one hc
end Go.Proofs.YtgpbcnagaelhiaaGreat.Exe
namespace Go.Proofs.YtgpbcnagaelhiaaGreat.Exe
open Go Go.Extern Go.Extern.Rtype Go.Lib

/-! ### Functions without a body: what sort.Slice asks for -/
noncomputable def on3 (xs : List AV) (k : AV → AV → AV → R) : R := List.rec (motive := fun _ => R) none (fun a r _ => List.rec (motive := fun _ => R) none (fun b r _ => on1 r fun c => k a b c) r) xs
noncomputable def on4 (xs : List AV) (k : AV → AV → AV → AV → R) : R := List.rec (motive := fun _ => R) none (fun a r _ => on3 r fun b c d => k a b c d) xs
theorem on3_some {xs : List AV} {k : AV → AV → AV → R} {z : AV × Option AS} (h : on3 xs k = some z) : ∃ a b c, xs = [a, b, c] ∧ k a b c = some z := by
  match xs, h with
  | a :: b :: r, h =>
    obtain ⟨c, rfl, h⟩ := on1_some (show on1 r (fun c => k a b c) = some z from h)
    exact ⟨a, b, c, rfl, h⟩
theorem on4_some {xs : List AV} {k : AV → AV → AV → AV → R} {z : AV × Option AS} (h : on4 xs k = some z) : ∃ a b c d, xs = [a, b, c, d] ∧ k a b c d = some z := by
  match xs, h with
  | a :: r, h =>
    obtain ⟨b, c, d, rfl, h⟩ := on3_some (show on3 r (fun b c d => k a b c d) = some z from h)
    exact ⟨a, b, c, d, rfl, h⟩
/-- A slice's length. -/
noncomputable def lenS (v : AV) (k : Nat → R) : R := ifB (Nat.beq (nilNo v) 2) (k 0) (onSl v fun _ _ n _ _ => k n)
theorem nilNo_two {v : AV} (h : Nat.beq (nilNo v) 2 = true) : v = .snil := by
  cases v <;> first | rfl | cases h
theorem lenS_some {ρ : Rho} {v : AV} {u : Value} {k : Nat → R} {z : AV × Option AS} (d : Den ρ v u) (h : lenS v k = some z) : ∃ p n c, u = .slice p n c ∧ k n = some z ∧ isOne v = true := by
  rcases ifB_or (show ifB (Nat.beq (nilNo v) 2) (k 0) (onSl v fun _ _ n _ _ => k n) = some z from h) with ⟨h1, h2⟩ | ⟨_, h2⟩
  · rw [nilNo_two h1] at d ⊢
    cases d
    exact ⟨none, 0, 0, rfl, h2, rfl⟩
  · obtain ⟨b, o, n, c, op, hv, h2⟩ := onSl_some h2
    rw [hv] at d ⊢
    cases d <;> exact ⟨_, _, _, rfl, h2, rfl⟩
noncomputable def elemT (P : Program) (t : TypeId) : Option TypeId := (P.info? t).bind fun i => match i.desc with | .slice e => some e | _ => none
theorem elemT_some {P : Program} {t e : TypeId} (h : elemT P t = some e) : ∃ i, P.info? t = some i ∧ i.desc = .slice e := by
  obtain ⟨i, hi, h⟩ := bind_some h
  refine ⟨i, hi, ?_⟩
  split at h
  · cases h; assumption
  · cases h
noncomputable def xValueOf (P : Program) : XF := fun xs S k => on1 xs fun v => onIfc v fun t u => onSome (elemT P t) fun _ => lenS u fun _ => newK S (.cells t 1 [u]) fun b S => k (.agg [.raw P.globals.size t, .ptr b 0, .int .u64 151]) S
noncomputable def xLen (P : Program) : XF := fun xs S k => on1 xs fun v => onAgg v fun cs => on3 cs fun h p f => onRaw h fun g t => onPtr p fun b o => onInt f fun kd n =>
  ifB (Nat.beq g P.globals.size) (ifB (Nat.beq o 0) (ifB (sameKind kd .u64) (ifB (eqK n 151) (onSome (elemT P t) fun _ => ifB (P.packed t) none (onCells S b fun _ _ cs => on1 cs fun c => lenS c fun n => k (.int .i64 (.ofNat n)) S)) none) none) none) none
/-- Which of Swapper's literals: of no element, of one, of more: 'sw': the slice's type, the element's, the literal. -/
noncomputable def findSw (t : TypeId) (sw : List (Nat × Nat × Nat)) : Option (Nat × Nat) := List.rec (motive := fun _ => Option (Nat × Nat)) none (fun e _ ih => ifB (Nat.beq e.1 t) (some e.2) ih) sw
noncomputable def xSwapper (P : Program) (f1 f2 : Nat) (sw : List (Nat × Nat × Nat)) : XF := fun xs S k => on1 xs fun v => onIfc v fun t u => onSome (findSw t sw) fun p => lenS u fun n =>
  ifB (Nat.beq n 0) (k (.fn f1 [] []) S) (ifB (Nat.beq n 1) (k (.fn f2 [] []) S) (k (.fn p.2 [] [u, .raw P.globals.size p.1]) S))
noncomputable def kindI (v : AV) (k : Nat → R) : R := onInt v fun kd n => ifB (sameKind kd .i64) (onNatI n k) none
noncomputable def xSwap (P : Program) : XF := fun xs S k => on4 xs fun vi vj vs vh => kindI vi fun i => kindI vj fun j => onSl vs fun b o n _ _ => onRaw vh fun g e =>
  ifB (Nat.beq g P.globals.size) (ifB (Nat.ble (Nat.succ i) n) (ifB (Nat.ble (Nat.succ j) n) (ifB (known P e)
    (kLoad (aggT P e) (sizeT P e) (.const (.ptr b (Nat.add o (Nat.mul i (sizeT P e))))) T.nil S fun x _ => kLoad (aggT P e) (sizeT P e) (.const (.ptr b (Nat.add o (Nat.mul j (sizeT P e))))) T.nil S fun y _ =>
      kStore (sizeT P e) (.const (.ptr b (Nat.add o (Nat.mul i (sizeT P e))))) (.const y) T.nil S fun _ S => kStore (sizeT P e) (.const (.ptr b (Nat.add o (Nat.mul j (sizeT P e))))) (.const x) T.nil S fun _ S => k (.tup []) S) none) none) none) none

section
variable {base : Base} {w : World} {P : Program} {ρ : Rho} {S : AS} {c : K} {z : AV × Option AS} {k : K}
/-- What one function's meaning must show. -/
def XOK (P : Program) (g : Nat) (f : XF) : Prop := ∀ (base : Base) (ρ : Rho) (S : AS) (w : World) (xs : List AV) (us : List Value) (k : K) (z : AV × Option AS), WRel base ρ S w → DenL ρ xs us → f xs S k = some z →
  ∃ v S' ρ' w' u, k v S' = some z ∧ ρ.le ρ' ∧ Keep ρ ρ' S S' ∧ WRel base ρ' S' w' ∧ Den ρ' v u ∧ (callFunc g us.toArray).run P w = .ok (.value u) w'
theorem ext_cons {g : Nat} {f : XF} {l : List (Nat × XF)} (h : XOK P g f) (hl : ExtOK P l) : ExtOK P ((g, f) :: l) := fun g' f' hm => by
  rcases List.mem_cons.1 hm with hm | hm
  · cases hm; exact h
  · exact hl g' f' hm
/-- The model stands in for it. -/
def Stands (P : Program) (g : Nat) (e : Array Value → Sem Value) : Prop := ∀ args w, (callFunc g args).run P w = ((e args).run P w).andThen fun v w' => .ok (.value v) w'
theorem one_cell {v : AV} {u : Value} (d : Den ρ v u) (h1 : isOne v = true) : Cells ρ [v] [u] := .one h1 d .nil
theorem xValueOf_ok {g : Nat} (hg : Stands P g fun args => ReflectliteValue.unpack (args.getD 0 (.tuple #[]))) : XOK P g (xValueOf P) := by
  intro base ρ S w xs us k z hw hl h
  obtain ⟨v, rfl, h⟩ := on1_some h
  cases hl with
  | cons d dn =>
    cases dn
    obtain ⟨t, u, rfl, h⟩ := onIfc_some h
    obtain ⟨e, he, h⟩ := onSome_some h
    obtain ⟨i, hi, hd⟩ := elemT_some he
    cases d with
    | @ifc _ _ v' d =>
      obtain ⟨p, n, cc, rfl, h, h1⟩ := lenS_some d h
      have h := newK_some h
      have hle := Rho.le_add (r := (w.heap.size, 0)) (hw.dom _ (Nat.le_refl _))
      have ho : ORel (ρ.add S.next (w.heap.size, 0)) 0 (.cells t 1 [u]) (.cells #[.slice p n cc] t) := by
        have := ORel.cells (ρ := ρ.add S.next (w.heap.size, 0)) (x := 0) (e := t) (z := 1) (tail := []) (fz := (0, 0)) (one_cell (d.mono hle) h1) (by simp) (.inl rfl)
        simpa using this
      refine ⟨_, _, _, _, _, h, hle, .new, hw.alloc _ _ 0 ho, .agg (.one rfl (.raw _ _) (.one rfl (.ptr (Rho.add_same _ _ _)) (.one rfl (.int _ _) .nil))), ?_⟩
      rw [hg]
      have := run_valueOf_slice (P := P) t e i hi hd p n cc w
      show ((ReflectliteValue.unpack (.iface t (.slice p n cc))).run P w).andThen _ = _
      rw [this]
      rfl
theorem xLen_ok {g : Nat} (hg : Stands P g (ReflectliteValue.method (ReflectliteValue.valueError "reflectlite.Value.Len" 0) ReflectliteValue.len)) : XOK P g (xLen P) := by
  intro base ρ S w xs us k z hw hl h
  obtain ⟨v, rfl, h⟩ := on1_some h
  cases hl with
  | cons d dn =>
    cases dn
    obtain ⟨cs, rfl, h⟩ := onAgg_some h
    obtain ⟨hh, p, f, rfl, h⟩ := on3_some h
    obtain ⟨g1, t, rfl, h⟩ := onRaw_some h
    obtain ⟨b, o, rfl, h⟩ := onPtr_some h
    obtain ⟨kd, n, rfl, h⟩ := onInt_some h
    obtain ⟨c1, h⟩ := ifB_some h
    obtain ⟨c2, h⟩ := ifB_some h
    obtain ⟨c3, h⟩ := ifB_some h
    obtain ⟨c4, h⟩ := ifB_some h
    obtain ⟨e, he, h⟩ := onSome_some h
    obtain ⟨i, hi, hd⟩ := elemT_some he
    rcases ifB_or h with ⟨_, h⟩ | ⟨hpk, h⟩
    · cases h
    obtain ⟨el, es, cs, hb, h⟩ := onCells_some h
    obtain ⟨cv, rfl, hq⟩ := on1_some h
    have c1 := beq_true c1
    have c2 := beq_true c2
    have c3 := kindNo_inj c3
    rw [eqK_eq, decide_eq_true_eq] at c4
    subst c1 c2 c3 c4
    cases d with
    | agg d =>
      cases d with
      | one _ d1 d =>
        cases d with
        | one _ d2 d =>
          cases d with
          | one _ d3 d =>
            cases d
            cases d1
            cases d3
            cases d2 with
            | @ptr _ _ r q hρ =>
              obtain ⟨us, tail, fz, hheap, hc, _, _⟩ := hw.cells hb hρ
              have hu : ∃ u, us = [u] ∧ Den ρ cv u ∧ isOne cv = true := by
                cases hc with
                | bytes hn => cases hq
                | one o1 dd hn => cases hn; exact ⟨_, rfl, dd, o1⟩
              obtain ⟨u, rfl, dd, _⟩ := hu
              obtain ⟨p, n, cc, rfl, hq, _⟩ := lenS_some dd hq
              refine ⟨_, _, ρ, w, _, hq, ρ.le_refl, .refl ρ S, hw, .int _ _, ?_⟩
              have hcell : w.cell? ⟨r, 0, none⟩ = some (.slice p n cc) := cell?_of hheap (by simp)
              rw [hg]
              have := run_valueLen_slice (P := P) t e i hi hd hpk ⟨r, 0, none⟩ p n cc w hcell
              show ((ReflectliteValue.method (ReflectliteValue.valueError "reflectlite.Value.Len" 0) ReflectliteValue.len #[.agg #[typeHandle P t, .pointer (some ⟨r, 0, none⟩), .int .u64 151]]).run P w).andThen _ = _
              rw [this]
              rfl
/-- What is said of Swapper's literals. -/
structure SwOK (P : Program) (f1 f2 : Nat) (sw : List (Nat × Nat × Nat)) : Prop where
  none : P.funcs.findIdx? (·.name == "internal/reflectlite" ++ ".Swapper$" ++ toString 1) = some f1
  one : P.funcs.findIdx? (·.name == "internal/reflectlite" ++ ".Swapper$" ++ toString 2) = some f2
  more : ∀ t e f, (t, e, f) ∈ sw → ∃ i ie ke, P.info? t = some i ∧ i.desc = .slice e ∧ P.info? e = some ie ∧ (∀ w, (kind e).run P w = .ok ke w) ∧ P.funcs.findIdx? (·.name == "internal/reflectlite" ++ ".Swapper$" ++ toString (swapperK 2 ie ke)) = some f
theorem findSw_some : ∀ {sw : List (Nat × Nat × Nat)} {t : TypeId} {p : Nat × Nat}, findSw t sw = some p → (t, p.1, p.2) ∈ sw
  | [], _, _, h => by cases h
  | (a, b) :: sw, t, p, h => by
    rcases ifB_or (show ifB (Nat.beq a t) (some b) (findSw t sw) = some p from h) with ⟨h1, h2⟩ | ⟨_, h2⟩
    · rw [← beq_true h1, ← Option.some.inj h2]
      exact List.mem_cons_self
    · exact List.mem_cons_of_mem _ (findSw_some h2)
theorem swapperK_two {n : Nat} (h : 2 ≤ n) (ie : TypeInfo) (ke : Nat) : swapperK n ie ke = swapperK 2 ie ke := by
  have h0 : ¬ n = 0 := by omega
  have h1 : ¬ n = 1 := by omega
  simp [swapperK, h0, h1]
theorem swapperK_more (ie : TypeInfo) (ke : Nat) : ¬ swapperK 2 ie ke ≤ 2 := by
  have c : ((2 : Nat) == 0) = false := rfl
  have d : ((2 : Nat) == 1) = false := rfl
  unfold swapperK
  simp only [c, d, Bool.false_eq_true, if_false]
  repeat' split
  all_goals omega
theorem xSwapper_ok {g f1 f2 : Nat} {sw : List (Nat × Nat × Nat)} (hs : SwOK P f1 f2 sw) (hg : Stands P g (ReflectliteSwapper.swapper "internal/reflectlite" (ReflectliteValue.valueError "Swapper"))) : XOK P g (xSwapper P f1 f2 sw) := by
  intro base ρ S w xs us k z hw hl h
  obtain ⟨v, rfl, h⟩ := on1_some h
  cases hl with
  | cons d dn =>
    cases dn
    obtain ⟨t, u, rfl, h⟩ := onIfc_some h
    obtain ⟨p, hp, h⟩ := onSome_some h
    obtain ⟨i, ie, ke, hi, hd, hie, hke, hf⟩ := hs.more _ _ _ (findSw_some hp)
    cases d with
    | @ifc _ _ v' d =>
      obtain ⟨pp, n, cc, rfl, h, h1⟩ := lenS_some d h
      have key : ∀ f, P.funcs.findIdx? (·.name == "internal/reflectlite" ++ ".Swapper$" ++ toString (swapperK n ie ke)) = some f → (callFunc g #[.iface t (.slice pp n cc)]).run P w = .ok (.value (.func (.func f) #[] (if swapperK n ie ke ≤ 2 then #[] else #[.slice pp n cc, typeHandle P p.1]))) w := fun f hf => by
        rw [hg, run_swapper_slice (P := P) t p.1 i ie hi hd hie ke hke pp n cc f hf w]
        rfl
      rcases ifB_or h with ⟨hn, h⟩ | ⟨hn, h⟩
      · have hn := beq_true hn
        subst hn
        have e0 : swapperK 0 ie ke = 1 := rfl
        have := key f1 (by rw [e0]; exact hs.none)
        rw [e0] at this
        exact ⟨_, _, ρ, w, _, h, ρ.le_refl, .refl ρ S, hw, .fn .nil .nil, this⟩
      rcases ifB_or h with ⟨hn1, h⟩ | ⟨hn1, h⟩
      · have hn1 := beq_true hn1
        subst hn1
        have e0 : swapperK 1 ie ke = 2 := rfl
        have := key f2 (by rw [e0]; exact hs.one)
        rw [e0] at this
        exact ⟨_, _, ρ, w, _, h, ρ.le_refl, .refl ρ S, hw, .fn .nil .nil, this⟩
      · have h2 : 2 ≤ n := by
          have a0 : ¬ n = 0 := fun e => by rw [e] at hn; simp at hn
          have a1 : ¬ n = 1 := fun e => by rw [e] at hn1; simp at hn1
          omega
        have := key p.2 (by rw [swapperK_two h2]; exact hf)
        rw [swapperK_two h2, if_neg (swapperK_more ie ke)] at this
        exact ⟨_, _, ρ, w, _, h, ρ.le_refl, .refl ρ S, hw, .fn .nil (.cons d (.cons (.raw _ _) .nil)), this⟩
/-- A variable read. -/
theorem loadVar_of {e : TypeId} {b off r x : Nat} (hk : known P e = true) (hρ : ρ b = some (r, x)) (hw : WRel base ρ S w) (h : kLoad (aggT P e) (sizeT P e) (.const (.ptr b off)) T.nil S c = some z) :
    ∃ v u, c v S = some z ∧ (loadVar e ⟨r, off, none⟩).run P w = .ok u w ∧ Den ρ v u := by
  obtain ⟨d, hd, hsz⟩ := known_some hk
  obtain ⟨b', off', hv, h⟩ := onPtr_some h
  cases hv
  obtain ⟨el, es, cs, hb, h⟩ := onCells_some h
  obtain ⟨v', hval, h⟩ := retO_some h
  obtain ⟨us, tail, fz, hh, hc, _, _⟩ := hw.cells hb hρ
  rcases valueK_some hc hval with ⟨ha, hlen, hden⟩ | ⟨ha, u, hu, hden, _⟩
  · obtain ⟨d', hd', hrow⟩ := aggT_true ha
    have hr := rangeAt_of hh off (sizeT P e)
    have e1 : ((us ++ tail).drop off).take (sizeT P e) = (us.drop off).take (sizeT P e) := by
      rw [List.drop_append_of_le_length (by omega), List.take_append_of_le_length (by rw [List.length_drop]; omega)]
    rw [e1] at hr
    have hl : ((us.drop off).take (sizeT P e)).length = sizeT P e := by rw [List.length_take, List.length_drop]; omega
    exact ⟨_, _, h, run_loadVar_mid (P := P) w r off e _ d' hr hd' hrow (by rw [hl]; exact hsz), hden⟩
  · have hcell : w.cell? ⟨r, off, none⟩ = some u := cell?_of hh (by rw [List.getElem?_append_left (by rcases Nat.lt_or_ge off us.length with h' | h'; exact h'; rw [List.getElem?_eq_none h'] at hu; cases hu)]; exact hu)
    exact ⟨_, u, h, by simp [loadVar, run_isAgg_false hd ha, load, Sem.run, hcell], hden⟩
/-- A variable written. -/
theorem storeVar_of {e : TypeId} {b off r x : Nat} {v : AV} {u : Value} (hk : known P e = true) (hρ : ρ b = some (r, x)) (hv : Den ρ v u) (hw : WRel base ρ S w) (h : kStore (sizeT P e) (.const (.ptr b off)) (.const v) T.nil S c = some z) :
    ∃ S' w', c (.tup []) S' = some z ∧ (storeVar e ⟨r, off, none⟩ u).run P w = .ok () w' ∧ Keep ρ ρ S S' ∧ WRel base ρ S' w' := by
  obtain ⟨d, hd, hn⟩ := known_some hk
  obtain ⟨b', off', hv', h⟩ := onPtr_some h
  cases hv'
  obtain ⟨el, es, cs, hb, h⟩ := onCells_some h
  obtain ⟨cs', hput, h⟩ := onSome_some h
  obtain ⟨us, tail, fz, hh, hc, htl, hfz⟩ := hw.cells hb hρ
  obtain ⟨hsz, hlen, hone, hcs⟩ := putValK_some hc hv hput
  have hll : u.cells.toList.length = sizeT P e := by rw [Array.length_toList]; exact hsz
  have hthere : w.there r off u.cells.size := there_of hh (by rw [List.length_append]; exact hfz.free) off _ (by rw [List.length_append, hsz]; omega)
  have hrun : (Instr.storeAt e (.pointer (some ⟨r, off, none⟩)) u).run P w = .ok () (w.setCells r off u.cells.toList) := by
    have hall : u.cells.all (·.oneCell') = true := by
      rw [Array.all_eq_true_iff_forall_mem]
      exact fun v hv => hone v (by simpa using hv)
    exact run_storeAt_mid (P := P) w r off e u.cells hthere (by rw [hsz]; exact hn) hall
  have hset := setCells_heap r el fz u.cells.toList off w (us ++ tail) hh (by rw [List.length_append, hll]; omega)
  have e1 : (us ++ tail).take off ++ u.cells.toList ++ (us ++ tail).drop (off + u.cells.toList.length) = us.take off ++ u.cells.toList ++ us.drop (off + sizeT P e) ++ tail := by
    rw [hll, List.take_append_of_le_length (by omega), List.drop_append_of_le_length (by omega)]
    simp
  rw [e1] at hset
  have hlen2 : (us.take off ++ u.cells.toList ++ us.drop (off + sizeT P e)).length = us.length := by simp [hll]; omega
  have hrun' : (storeVar e ⟨r, off, none⟩ u).run P w = .ok () (w.setCells r off u.cells.toList) := by
    have e0 : (Instr.storeAt e (.pointer (some ⟨r, off, none⟩)) u).run P w = (storeVar e ⟨r, off, none⟩ u).run P w := by
      simp only [Instr.storeAt, Instr.sureAddr, Sem.run_bind, Sem.run_pure, Result.andThen_ok]
    rw [← e0]
    exact hrun
  refine ⟨_, _, h, hrun', .put hρ, ?_⟩
  rw [hset]
  exact hw.put ⟨_, hb⟩ hρ (.cells hcs htl (by rw [hlen2]; exact hfz))
theorem kindI_some {v : AV} {k : Nat → R} {z : AV × Option AS} (h : kindI v k = some z) : ∃ n : Nat, v = .int .i64 (.ofNat n) ∧ k n = some z := by
  obtain ⟨kd, n, rfl, h⟩ := onInt_some h
  obtain ⟨h1, h⟩ := ifB_some h
  obtain ⟨m, rfl, h⟩ := onNatI_some h
  rw [kindNo_inj h1]
  exact ⟨m, rfl, h⟩
theorem xSwap_ok {g : Nat} {gs : Bool} (hg : Stands P g (ReflectliteSwapper.swap gs)) : XOK P g (xSwap P) := by
  intro base ρ S w xs us k z hw hl h
  obtain ⟨vi, vj, vs, vh, rfl, h⟩ := on4_some h
  obtain ⟨i, rfl, h⟩ := kindI_some h
  obtain ⟨j, rfl, h⟩ := kindI_some h
  obtain ⟨b, o, n, cp, op, rfl, h⟩ := onSl_some h
  obtain ⟨g1, e, rfl, h⟩ := onRaw_some h
  obtain ⟨c1, h⟩ := ifB_some h
  obtain ⟨c2, h⟩ := ifB_some h
  obtain ⟨c3, h⟩ := ifB_some h
  obtain ⟨hk, hq0⟩ := ifB_some h
  have c1 := beq_true c1
  subst c1
  have c2 := ble_true c2
  have c3 := ble_true c3
  cases hl with
  | cons d1 hl =>
    cases hl with
    | cons d2 hl =>
      cases hl with
      | cons d3 hl =>
        cases hl with
        | cons d4 hl =>
          cases hl
          cases d1
          cases d2
          cases d4
          cases d3 with
          | sl0 => omega
          | @sl _ _ _ _ r x _ hρ =>
            obtain ⟨x1, u1, hq1, r1, dx⟩ := loadVar_of hk hρ hw hq0
            obtain ⟨y1, u2, hq2, r2, dy⟩ := loadVar_of hk hρ hw hq1
            obtain ⟨S1, w1, hq3, r3, k1, hw1⟩ := storeVar_of hk hρ dy hw hq2
            obtain ⟨S2, w2, hq4, r4, k2, hw2⟩ := storeVar_of hk hρ dx hw1 hq3
            refine ⟨_, S2, ρ, w2, _, hq4, ρ.le_refl, k1.trans k2, hw2, .tup .nil, ?_⟩
            obtain ⟨_, _, hs⟩ := known_some hk
            have hie : ∃ ie, P.info? e = some ie ∧ ie.size = sizeT P e := by
              cases hi : P.info? e with
              | none => rw [hi] at hs; cases hs
              | some ie => rw [hi] at hs; exact ⟨ie, rfl, Option.some.inj hs⟩
            obtain ⟨ie, hie, hsz⟩ := hie
            have i0 : ¬ ((i : Int) < 0) := by omega
            have i1 : ¬ ((i : Int) ≥ n) := by omega
            have j0 : ¬ ((j : Int) < 0) := by omega
            have j1 : ¬ ((j : Int) ≥ n) := by omega
            have r1' : (loadVar e ⟨r, o + i * sizeT P e, none⟩).run P w = .ok u1 w := r1
            have r2' : (loadVar e ⟨r, o + j * sizeT P e, none⟩).run P w = .ok u2 w := r2
            have r3' : (storeVar e ⟨r, o + i * sizeT P e, none⟩ u2).run P w = .ok () w1 := r3
            have r4' : (storeVar e ⟨r, o + j * sizeT P e, none⟩ u1).run P w1 = .ok () w2 := r4
            rw [hg]
            have hrun : ∀ cc, (ReflectliteSwapper.swap gs #[.int .i64 i, .int .i64 j, .slice (some ⟨r, o, none⟩) n cc, typeHandle P e]).run P w = .ok (.tuple #[]) w2 := fun cc => by
              rw [rl_swap]
              cases gs <;> simp [i0, i1, j0, j1, ofHandle, handleType, typeHandle, ReflectliteSwapper.exchange, sizeOf, rl_info e ie hie, hsz, Addr.add_lit, r1', r2', r3', r4', Result.andThen]
            have := hrun (if op then cp + x else cp)
            show ((ReflectliteSwapper.swap gs #[.int .i64 (Int.ofNat i), .int .i64 (Int.ofNat j), .slice (some ⟨r, o, none⟩) n (if op then cp + x else cp), typeHandle P e]).run P w).andThen _ = _
            rw [show (ReflectliteSwapper.swap gs #[.int .i64 (Int.ofNat i), .int .i64 (Int.ofNat j), .slice (some ⟨r, o, none⟩) n (if op then cp + x else cp), typeHandle P e]).run P w = .ok (.tuple #[]) w2 from this]
            rfl
end
end Go.Proofs.YtgpbcnagaelhiaaGreat.Exe
namespace Go.Proofs.YtgpbcnagaelhiaaGreat.Exe
open Go

/-! ### A contract of a call in a state of ours: what the machine says it comes to -/
section
variable {P : Program} {tab : Opt} (hX : OptOK P tab) (hM : MemoOK P tab.memo) (hm : P.follows .mixedOrders = true) (hN : NamesOk P)
include hX hM hm hN
/-- A call in a world that a state of ours describes: what it comes to, but for the numbers of new blocks. -/
theorem exec_at {g : FuncId} {n : Nat} {base : Base} {w : World} {ρ : Rho} {S S2 : AS} {xs : List AV} {us : List Value} {v0 : AV} (hw : WRel base ρ S w) (hl : DenL ρ xs us)
    (h : sndF (bothF (tabOf P P.funcs.toList 0 .nil) (comp P true) tab n) (.fn g) xs S (fun v S' => matchK S v0 S2 v S') = some (.bool true, none)) :
    Calls P g us.toArray w fun e w' => ∃ ρ2 u, e = .returned u ∧ ρ.le ρ2 ∧ Keep ρ ρ2 S S2 ∧ WRel base ρ2 S2 w' ∧ Den ρ2 v0 u := by
  rw [sndF_eq] at h
  refine callsIn_wide.1 ((both_ok hX hM tabOf_ok hm hN n).2 base ρ S w (.fn g) xs us _ _ (fun e w' => ∃ ρ2 u, e = .returned u ∧ ρ.le ρ2 ∧ Keep ρ ρ2 S S2 ∧ WRel base ρ2 S2 w' ∧ Den ρ2 v0 u) hw hl h fun v S' ρ' w' u g1 g2 g3 g4 g5 => ?_).1
  obtain ⟨ms, hms⟩ := matchK_some g1
  obtain ⟨ρ2, r1, r2, r3, r4⟩ := match_ok hw hms g2 g3 g4 g5
  exact ⟨ρ2, u, rfl, r1, r2, r3, r4⟩
/-- A piece of code in a frame that a table of ours describes: what the machine says of it, it does. For pieces of a walk by hand. -/
theorem code_at {m n N : Nat} {base : Base} {w : World} {ρ : Rho} {S : AS} {t : T} {a : Act} {k : KX} {z : AV × Option AS} {Q : Exit → Act → World → Prop} (hn : n ≤ N) (c : Code) (hr : RelA base ρ S w t a N)
    (h : runA (comp P false n c) (both (tabOf P P.funcs.toList 0 .nil) (comp P true) tab m).2 (both (tabOf P P.funcs.toList 0 .nil) (comp P true) tab m).1 t S k = some z) (hq : Outs base ρ S k z N Q) : c.wp P Q a w :=
  wpIn_wide.1 (code_wp (ro := none) (rd := false) hm hN (both_ok hX hM tabOf_ok hm hN m).2 (both_ok hX hM tabOf_ok hm hN m).1 (.inl rfl) hn c ρ S w t a k Q hr h hq)
end
end Go.Proofs.YtgpbcnagaelhiaaGreat.Exe
