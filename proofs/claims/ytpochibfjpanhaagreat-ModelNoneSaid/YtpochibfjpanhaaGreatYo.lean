/- A part of the machine that reckons a closed run, and of the proof that what it says the given program does. No conditions. -/
import Derived.Test.YtpochibfjpanhaaGreatYn
set_option linter.unusedVariables false
set_option linter.unusedSimpArgs false
namespace Go.Proofs.YtpochibfjpanhaaGreat.Exe
open Go
variable {base w : World} {P : Program} {ρ : Rho} {S : AS} {t : T} {o : Oper} {c : K} {z : AV × Option AS} {a : Act}
variable {ops : Array Oper} {N : Nat}

/-! ### What is looked at when a region is compiled -/
theorem ancOk_at {os : List Oper} {anc : List Nat} : ∀ {n : Nat}, ancOk os anc n = true → ∀ i o, i < n → os[i]? = some o → (o.after.toList.all fun e => !Region.binds .any e || Nat.blt e.on i) = true ∧ subN (anc.getD i 0) (ancNow anc o) = true
  | 0, _, _, _, h, _ => by omega
  | n + 1, h, i, o, hi, ho => by
    unfold ancOk at h
    rw [Bool.and_eq_true] at h
    by_cases hin : i = n
    · subst hin
      rw [ho] at h
      simpa using h.1
    · exact ancOk_at h.2 i o (by omega) ho

theorem ancNow_test {anc : List Nat} : ∀ (l : List Edge) (m j : Nat), (l.foldl (fun m e => bif Region.binds .any e then m ||| (bitN e.on ||| anc.getD e.on 0) else m) m).testBit j = true → m.testBit j = true ∨ ∃ e ∈ l, Region.binds .any e = true ∧ (j = e.on ∨ Anc anc e.on j)
  | [], m, j, h => .inl h
  | e :: l, m, j, h => by
    rw [List.foldl_cons] at h
    rcases ancNow_test l _ j h with h1 | ⟨e', h1, h2⟩
    · cases hb : Region.binds .any e with
      | false => rw [hb] at h1; exact .inl h1
      | true =>
        rw [hb] at h1
        rcases (or_test _ _ _).1 h1 with h1 | h1
        · exact .inl h1
        · refine .inr ⟨e, List.mem_cons_self, hb, ?_⟩
          rcases (or_test _ _ _).1 h1 with h1 | h1
          · rw [bitN_test, decide_eq_true_eq] at h1
            exact .inl h1.symm
          · exact .inr h1
    · exact .inr ⟨e', List.mem_cons_of_mem _ h1, h2⟩

theorem drawnOk_of {anc : List Nat} {M n : Nat} (h1 : ancOk ops.toList anc (ops.toList.map (compOper P ops)).length = true) (h2 : clashOk ops.toList (ops.toList.map (compOper P ops)) anc M = true) (h3 : dstsOk n ops = true) (hn : n ≤ N) : DrawnOk P ops anc M N := by
  have hlen : (ops.toList.map (compOper P ops)).length = ops.size := by simp
  have hlt : ∀ {i o}, ops[i]? = some o → i < ops.size := fun h => (Array.getElem?_eq_some_iff.1 h).1
  have hl : ∀ {i o}, ops[i]? = some o → ops.toList[i]? = some o := fun h => by rw [Array.getElem?_toList]; exact h
  have hclash : ∀ {i j o o' d}, ops[i]? = some o → ops[j]? = some o' → o'.dst = some d →
      ((!(looksA (compOper P ops o)).contains d || (anc.getD i 0).testBit j || (M.testBit j && (Nat.beq i j || (anc.getD j 0).testBit i))) = true) ∧
      ((Nat.beq i j || (match o.dst with | some d' => !Nat.beq d d' || (M.testBit j && (anc.getD j 0).testBit i) || (M.testBit i && (anc.getD i 0).testBit j) | none => true)) = true) := by
    intro i j o o' d ho ho' hd
    unfold clashOk at h2
    have h := List.all_eq_true.1 h2 j (List.mem_range.2 (by rw [hlen]; exact hlt ho'))
    rw [hl ho'] at h
    simp only [Option.bind_some, hd] at h
    have h := List.all_eq_true.1 h i (List.mem_range.2 (by rw [hlen]; exact hlt ho))
    rw [as_get, ho, hl ho] at h
    simp only [Option.map_some, Option.getD_some, Option.bind_some, Bool.and_eq_true] at h
    exact h
  refine { edges := fun i o ho e he hb => ?_, must := fun i o ho j hj => ?_, reads := fun i j o o' d ho ho' hd hm => ?_, dsts := fun i j o o' d ho ho' hne hd hd' => ?_, tmps := fun i o d ho hd => Nat.lt_of_lt_of_le (dstsOk_at h3 ho d hd) hn }
  · have h := (ancOk_at h1 i o (by rw [hlen]; exact hlt ho) (hl ho)).1
    have h := List.all_eq_true.1 h e (by simpa using he)
    rw [hb] at h
    exact blt_lt (by simpa using h)
  · have h := (ancOk_at h1 i o (by rw [hlen]; exact hlt ho) (hl ho)).2
    have h := subN_test h hj
    rcases ancNow_test _ 0 j h with h | ⟨e, he, hb, h⟩
    · rw [zero_test] at h; cases h
    · exact ⟨e, by simpa using he, hb, h⟩
  · have h := (hclash ho ho' hd).1
    simp only [Bool.or_eq_true, Bool.not_eq_true', Bool.and_eq_true] at h
    rcases h with (h | h) | ⟨h, h'⟩
    · have : (looksA (compOper P ops o)).contains d = true := by simpa using hm
      rw [this] at h; cases h
    · exact .inl h
    · exact .inr ⟨h, h'.imp (fun h => beq_true h) id⟩
  · have h := (hclash ho ho' hd').2
    rw [hd] at h
    simp only [Bool.or_eq_true, Bool.not_eq_true', Bool.and_eq_true] at h
    rcases h with h | (h | h) | h
    · exact absurd (beq_true h) hne
    · exact absurd rfl (beq_false h)
    · exact .inl h
    · exact .inr h

theorem drawn_region {cl : Cl} {Q : Exit → Act → World → Prop} {k : KL} {n : Nat} {id : Nat} {ro : Option Nat} (hm : P.follows .mixedOrders = true) (hN : NamesOk P) (hcl : ClOK P cl) (hd : dstsOk n ops = true) (hn : n ≤ N) (hr : RelA base ρ S w t a N) (h : runL (compDrawn P ops) cl t S k = some z) (hq : Ends base ρ S k z N (Q .normal)) :
    (Code.region id ops true).wpIn (FW ro) 0 P Q a w := by
  refine wpIn_region_any hm ?_
  unfold compDrawn at h
  dsimp only at h
  generalize hanc : ancs ops.toList [] = anc at h
  generalize horder : orderL (ops.toList.map (compOper P ops)).length anc ((List.range (ops.toList.map (compOper P ops)).length).map (classA ops.toList (ops.toList.map (compOper P ops)) anc)) (2 * (ops.toList.map (compOper P ops)).length + 1) 0 0 0 0 = res at h
  generalize kindsOf res = M at h
  cases hc : (chkL (ops.toList.map (compOper P ops)) anc M res 0 0 0 0 && ancOk ops.toList anc (ops.toList.map (compOper P ops)).length && clashOk ops.toList (ops.toList.map (compOper P ops)) anc M && !ops.toList.any isSelect) with
  | false => rw [hc] at h; cases h
  | true =>
    rw [hc] at h
    simp only [Bool.and_eq_true] at hc
    obtain ⟨⟨⟨h1, h2⟩, h3⟩, _⟩ := hc
    have h : runL (compW (ops.toList.map (compOper P ops)) res) cl t S k = some z := h
    have hdr := drawnOk_of (N := N) h2 h3 hd hn
    have hnone : ∀ j, (Array.replicate ops.size false).getD j false = false := fun j => by
      rw [Array.getD_eq_getD_getElem?, Array.getElem?_replicate]
      split <;> rfl
    have hI : Inv base P ops anc M N ρ S (fun j => (Array.replicate ops.size false).getD j false = true) 0 0 0 0 (fun _ => 0) ρ S { w with drawn := w.drawn + 1 } t a :=
      { world := hr.world.drew', le := ρ.le_refl, keep := .refl ρ S, defers := hr.defers, size := hr.size, den := fun n _ => hr.tmps n,
        sub := fun j hj => (by rw [hnone] at hj; cases hj),
        main := fun j hj => (by rw [zero_test] at hj; cases hj),
        ancL := fun j hj => (by rw [hnone] at hj; cases hj),
        ancE := fun j hj => (by rw [zero_test] at hj; cases hj),
        inA := fun j hj => (by rw [zero_test] at hj; cases hj),
        vE := fun j hj => (by rw [zero_test] at hj; cases hj),
        fact := fun j o _ hj => (by rw [zero_test] at hj; cases hj),
        ids := fun j1 j2 o1 o2 _ _ hj => (by rw [zero_test] at hj; cases hj) }
    obtain ⟨res', E', F', V', idf', S', t', hI', hr', hc', hb'⟩ := stage hdr res 0 0 0 (fun _ => 0) S t hI h h1
    refine drawn_go hN hcl hdr hq ops.size _ _ _ _ _ _ res' _ _ _ _ _ (by simp) ?_ hI' hb' hr' hc'
    unfold unl
    have := List.countP_le_length (p := fun b => !b) (l := (Array.replicate ops.size false).toList)
    simpa using this

/-! ### Code -/
def exOf : AX → Exit
  | .normal => .normal
  | .ret => .ret
  | .exit i => .exit i
/-- What the end of some code must meet. -/
def Outs (base : World) (ρ : Rho) (S : AS) (k : KX) (z : AV × Option AS) (N : Nat) (Q : Exit → Act → World → Prop) : Prop :=
  ∀ x t' S' ρ' a' w', k x t' S' = some z → ρ.le ρ' → Keep ρ ρ' S S' → RelA base ρ' S' w' t' a' N → Q (exOf x) a' w'
theorem Outs.step {k : KX} {Q : Exit → Act → World → Prop} (h : Outs base ρ S k z N Q) {ρ' : Rho} {S' : AS} (hl : ρ.le ρ') (hk : Keep ρ ρ' S S') : Outs base ρ' S' k z N Q :=
  fun x t' S'' ρ'' a' w' h1 h2 h3 h4 => h x t' S'' ρ'' a' w' h1 (Rho.le_trans hl h2) (hk.trans h3) h4

def AgOK (P : Program) (ag : Ag) (m : Nat) : Prop :=
  ∀ (ro : Option Nat) (rd : Bool) (n N : Nat) (base : World) (b : Code) (ρ : Rho) (S : AS) (w : World) (t : T) (a : Act) (k : KX) (z : AV × Option AS) (Q : Exit → Act → World → Prop), (ro = none ∨ rd = true) → n ≤ N → RelA base ρ S w t a N → ag (.loop (comp P rd n b)) t S k = some z → Outs base ρ S k z N Q → Code.roundsIn (FW ro) 0 P b Q m a w

theorem loop_round {cl : Cl} {ag : Ag} {m n : Nat} {b : Code} {ro : Option Nat} {rd : Bool} (hro : ro = none ∨ rd = true) (hag : AgOK P ag m) (hn : n ≤ N)
    (IH : ∀ (ρ : Rho) (S : AS) (w : World) (t : T) (a : Act) (k : KX) (Q : Exit → Act → World → Prop), RelA base ρ S w t a N → runA (comp P rd n b) cl ag t S k = some z → Outs base ρ S k z N Q → b.wpIn (FW ro) 0 P Q a w)
    {k : KX} {Q : Exit → Act → World → Prop} (hr : RelA base ρ S w t a N) (h : runA (.loop (comp P rd n b)) cl ag t S k = some z) (hq : Outs base ρ S k z N Q) : Code.roundsIn (FW ro) 0 P b Q (m + 1) a w := by
  rw [roundsIn_succ]
  refine IH ρ S w t a _ _ hr (show runA (comp P rd n b) cl ag t S (fun x t S => AX.rec (ag (.loop (comp P rd n b)) t S k) (k .ret t S) (fun i => k (.exit i) t S) x) = some z from h) fun x t' S' ρ' a' w' h1 h2 h3 h4 => ?_
  cases x with
  | normal => exact hag ro rd n N base b ρ' S' w' t' a' k z Q hro hn h4 h1 (hq.step h2 h3)
  | ret => exact hq .ret t' S' ρ' a' w' h1 h2 h3 h4
  | exit i => exact hq (.exit i) t' S' ρ' a' w' h1 h2 h3 h4

/-! ### A scope, in whatever frame -/
section
variable {b : Frame} {kk : List Item} {cs : List Frame}
theorem stepR_scope {c : Code} : step P (lone (b.atR a (.code (.scope c) :: kk)) cs w) = .next (lone (b.atR a (.code c :: .inScope c :: kk)) cs w) :=
  step_lone_go (by simp [stepG, stepG.exec, Frame.atR])
theorem stepR_inScope {c : Code} : step P (lone (b.atR a (.inScope c :: kk)) cs w) = .next (lone (b.atR a kk) cs w) :=
  step_lone_go (by simp [stepG, stepG.exec, Frame.atR])
end
theorem wpIn_scope {F : Fence} {m : Nat} {Q : Exit → Act → World → Prop} {c : Code} (h : c.wpIn F m P (Exit.noGoto Q) a w) : (Code.scope c).wpIn F m P Q a w := by
  intro b k cs hro hb hr
  have h0 : (lone (b.atR a (.code (.scope c) :: k)) cs w).fenced P F := fenced_calm hb hr rfl
  obtain ⟨e, a₁, w₁, hq, harr⟩ := h b (.inScope c :: k) cs hro hb hr
  cases e with
  | normal => exact ⟨.normal, a₁, w₁, hq, .head h0 stepR_scope (StepsIn.trans harr (.one (fenced_calm hb hr rfl) stepR_inScope))⟩
  | exit id =>
    have hx : exitTo id (.inScope c :: k) = exitTo id k := by simp [exitTo]
    exact ⟨.exit id, a₁, w₁, hq, fun k' hk => .head h0 stepR_scope (harr.1 k' (by rw [hx]; exact hk)), fun hr' hk => let ⟨k₁, h1, h2⟩ := harr.2 hr' (by rw [hx]; exact hk); ⟨k₁, h1, .head h0 stepR_scope h2⟩⟩
  | goto l => exact hq.elim
  | ret => exact ⟨_, a₁, w₁, hq, .of_steps (.one h0 stepR_scope) harr⟩
  | panic ch => exact ⟨_, a₁, w₁, hq, .of_steps (.one h0 stepR_scope) harr⟩
  | outgrown => exact ⟨_, a₁, w₁, hq, .of_steps (.one h0 stepR_scope) harr⟩

/-! ### A range over a function -/
theorem run_getLoop {w : World} {r : Nat} {l : Loop} (h : w.heap[r]? = some (.loop l)) : (Instr.getLoop r).run P w = .ok l w := by simp [Instr.getLoop, getObj, Sem.run, h]
theorem run_setLoop {w : World} {r : Nat} {l : Loop} (ob : Obj) (h : w.heap[r]? = some (.loop l)) : (setObj r ob).run P w = .ok () (w.putObj r ob) := by simp [setObj, Sem.run, h, World.putObj]
theorem WRel.loop (h : WRel base ρ S w) {b r x st n : Nat} {pe : Option Nat} {t : T} {ps : List (List D4)} {asg c : Code} (hb : S.heap.getK b = some (.loop st pe t ps asg c n)) (e : ρ b = some (r, x)) :
    ∃ l : Loop, w.heap[r]? = some (.loop l) ∧ stNo l.state = st ∧ pendOf pe = l.pending ∧ (∀ m, Den ρ (evTmp (pathOf m) t) (l.tmps.getD m undef)) ∧ ps = l.params.toList.map pathOf ∧ (∀ p ∈ l.params, p < n) ∧ l.assign = asg ∧ l.body = c ∧ n ≤ l.tmps.size := by
  obtain ⟨u, hu, ho⟩ := h.obj b _ r x hb e
  cases ho with
  | loop a1 a2 a3 a4 a5 a6 a7 a8 => exact ⟨_, hu, a1, a2, a3, a4, a5, a6, a7, a8⟩
theorem run_newObj (o : Obj) (w : World) : (newObj o).run P w = .ok w.heap.size (w.alloc o) := by
  simp [newObj]
  rfl
theorem run_enterLoop (fn : FuncId) (tmps : Array Value) (ps : Array Tmp) (asg body : Code) (w : World) :
    (Instr.enterLoop fn tmps ps asg body none).run P w = .ok (w.heap.size + 1, [{ target := .collected w.heap.size, args := #[] }]) ((w.alloc (.deferred (some []))).alloc (.loop { state := .ready, pending := none, fn, tmps, params := ps, assign := asg, body, defers := w.heap.size })) := by
  have hsz : (w.alloc (.deferred (some []))).heap.size = w.heap.size + 1 := by show (w.heap.push _).size = _; simp
  simp only [Instr.enterLoop, Sem.run_bind, run_newObj, Result.andThen_ok, Sem.run_pure, hsz]
theorem run_endLoop {w : World} {r : Nat} {l : Loop} (h : w.heap[r]? = some (.loop l)) (hs : stNo l.state ≠ 1) : (Instr.endLoop r).run P w = .ok l.pending (w.putObj r (.loop { l with state := .exhausted })) := by
  obtain ⟨st, pe, fn, tmps, params, assign, body, defers⟩ := l
  cases st with
  | busy => exact absurd rfl hs
  | ready => simp [Instr.endLoop, run_getLoop h, run_setLoop _ h]
  | done => simp [Instr.endLoop, run_getLoop h, run_setLoop _ h]
  | exhausted => simp [Instr.endLoop, run_getLoop h, run_setLoop _ h]

theorem wpIn_pend {ro : Option Nat} {Q : Exit → Act → World → Prop} {pe : Option Nat} {k : KX} {n : Nat} (hr : RelA base ρ S w t a N) (h : outK pe t S k = some z) (hq : Outs base ρ S k z N Q) :
    (match pendOf pe with | none => Q .normal a w | some c => c.wpIn (FW ro) n P Q a w) := by
  match pe, h with
  | none, h => exact hq .normal t S ρ a w h ρ.le_refl (.refl ρ S) hr
  | some 0, h => exact wpIn_ret (hq .ret t S ρ a w h ρ.le_refl (.refl ρ S) hr)
  | some (i + 1), h => exact wpIn_exit (hq (.exit i) t S ρ a w h ρ.le_refl (.refl ρ S) hr)

theorem range_wp {cl : Cl} {ag : Ag} {n : Nat} {f : Operand} {f' : AR} {ps : Array Tmp} {asg b : Code} {k : KX} {Q : Exit → Act → World → Prop} (hN : NamesOk P) (hcl : ClOK P cl) (hn : n ≤ N) (hps : tmpsOk n ps = true) (hf : ofOperand f = some f') (hr : RelA base ρ S w t a N)
    (h : runA (.range f' (ps.toList.map pathOf) asg b n) cl ag t S k = some z) (hq : Outs base ρ S k z N Q) : (Code.rangeFunc f ps asg b).wpIn (FW none) 0 P Q a w := by
  have h := newK_some (k := fun d S => newK S (.loop 0 none t (ps.toList.map pathOf) asg b n) fun l S => onFn (ev f' t) fun g a b => cl (.fn g) (List.append a (.yl l :: b)) S fun _ S =>
    onLoop S l fun st pe t' ps asg c n => ifB (Nat.beq st 1) none (outK pe (t.push (.map d)) (putK S l (.loop 3 pe t' ps asg c n)) k)) h
  have h := newK_some h
  obtain ⟨g, fa, fb, hv, h⟩ := onFn_some h
  refine wpIn_rangeFunc fun fn _ => ?_
  have hw1 := hr.world.alloc (.dfr true) (.deferred (some [])) 0 .dfr
  have hle1 : ρ.le (ρ.add S.next (w.heap.size, 0)) := Rho.le_add (hr.world.dom _ (Nat.le_refl _))
  have hpsn : ∀ p ∈ ps, p < n := fun p hp => ble_true (List.all_eq_true.1 hps p (by simpa using hp))
  have hle2 : (ρ.add S.next (w.heap.size, 0)).le ((ρ.add S.next (w.heap.size, 0)).add (Nat.succ S.next) ((w.alloc (.deferred (some []))).heap.size, 0)) := Rho.le_add (hw1.dom _ (Nat.le_refl _))
  have hw2 := hw1.alloc (.loop 0 none t (ps.toList.map pathOf) asg b n) (.loop { state := .ready, pending := none, fn, tmps := a.tmps, params := ps, assign := asg, body := b, defers := w.heap.size }) 0
    (.loop rfl rfl (fun m => (hr.tmps m).mono (Rho.le_trans hle1 hle2)) rfl hpsn rfl rfl (by rw [hr.size]; exact hn))
  have hd := hr.tmps.ev f f' hf
  rw [hv] at hd
  generalize hef : a.eval f = vf at hd
  cases hd with
  | @fn _ _ _ fi ca h1 h2 =>
  have hle := Rho.le_trans hle1 hle2
  have hsz : (w.alloc (.deferred (some []))).heap.size = w.heap.size + 1 := by show (w.heap.push _).size = _; simp
  have hyl : Den ((ρ.add S.next (w.heap.size, 0)).add (Nat.succ S.next) ((w.alloc (.deferred (some []))).heap.size, 0)) (.yl (Nat.succ S.next)) (.func (.yield (w.heap.size + 1)) #[] #[]) := by
    have := Rho.add_same (ρ.add S.next (w.heap.size, 0)) (Nat.succ S.next) ((w.alloc (.deferred (some []))).heap.size, 0)
    rw [hsz] at this ⊢
    exact .yl this
  obtain ⟨hcalls, fnn, hfn, hbody⟩ := hcl base _ _ _ (.fn g) _ (fi ++ (.func (.yield (w.heap.size + 1)) #[] #[] :: ca)) _ z (rangePost (FW none) 0 P (w.heap.size + 1) Q { a with defers := [{ target := .collected w.heap.size, args := #[] }] ++ a.defers }) hw2 ((h1.mono hle).append (.cons hyl (h2.mono hle))) h (fun v S' ρ' w' u hk k1 k2 k3 k4 => by
    obtain ⟨st, pe, t', ps', asg', c', n', hb, hk⟩ := onLoop_some hk
    rcases ifB_or (show ifB (Nat.beq st 1) none (outK pe (t.push (.map S.next)) (putK S' (Nat.succ S.next) (.loop 3 pe t' ps' asg' c' n')) k) = some z from hk) with ⟨_, hk⟩ | ⟨hst, hk⟩
    · cases hk
    have hρl := k1 _ _ (Rho.add_same (ρ.add S.next (w.heap.size, 0)) (Nat.succ S.next) ((w.alloc (.deferred (some []))).heap.size, 0))
    rw [hsz] at hρl
    obtain ⟨l, hl, a1, a2, a3, a4, a5, a6, a7, a8⟩ := k3.loop hb hρl
    refine ⟨_, _, run_endLoop hl (by rw [a1]; exact beq_false hst), ?_⟩
    have hw4 : WRel base ρ' (putK S' (Nat.succ S.next) (.loop 3 pe t' ps' asg' c' n')) (w'.putObj (w.heap.size + 1) (.loop { l with state := .exhausted })) := k3.put ⟨_, hb⟩ hρl (ORel.loop (r := { l with state := .exhausted }) (x := 0) (st := 3) (pe := pe) rfl a2 a3 a4 a5 a6 a7 a8)
    have hkeep : Keep ρ ρ' S (putK S' (Nat.succ S.next) (.loop 3 pe t' ps' asg' c' n')) := (Keep.new.trans (Keep.new.trans k2)).trans (.put hρl)
    have hkl : ρ.le ρ' := Rho.le_trans hle k1
    have hfin := wpIn_pend (base := base) (ρ := ρ') (N := N) (ro := none) (n := 0) (P := P) (a := { a with defers := [{ target := .collected w.heap.size, args := #[] }] ++ a.defers }) ⟨hw4, fun m => (by rw [evTmp_push]; exact (hr.tmps m).mono hkl), (by
      rw [off_push]
      exact .mark (k1 _ _ (hle2 _ _ (Rho.add_same ρ S.next (w.heap.size, 0)))) (hr.defers.mono hkl)), hr.size⟩ hk (hq.step hkl hkeep)
    rw [a2] at hfin
    exact hfin)
  have he := run_enterLoop (P := P) fn a.tmps ps asg b w
  generalize (w.alloc (.deferred (some []))).alloc (.loop { state := .ready, pending := none, fn, tmps := a.tmps, params := ps, assign := asg, body := b, defers := w.heap.size }) = W2 at he hcalls
  have hres : (resolve a.eval (rangeCall f (w.heap.size + 1)) 0).run P W2 = .ok { target := .fn (.func g) ca.toArray, args := fi.toArray ++ #[.func (.yield (w.heap.size + 1)) #[] #[]] } W2 := by
    have e1 : a.eval (.const (.func (.yield (w.heap.size + 1)) #[] #[])) = .func (.yield (w.heap.size + 1)) #[] #[] := rfl
    simp [resolve, hef, Deferred.ofValue, e1]
  have hinv : (invoke (.fn (.func g) ca.toArray) (fi.toArray ++ #[.func (.yield (w.heap.size + 1)) #[] #[]])).run P W2 = .ok (.enter g (fi ++ (.func (.yield (w.heap.size + 1)) #[] #[] :: ca)).toArray) W2 := by
    have := names_call (args := (fi ++ (.func (.yield (w.heap.size + 1)) #[] #[] :: ca)).toArray) hfn (hN g fnn hfn) hbody W2
    rw [← this]
    simp only [invoke]
    congr 1
    apply congrArg (callFunc g)
    apply Array.toList_inj.1
    simp
  exact ⟨w.heap.size + 1, [{ target := .collected w.heap.size, args := #[] }], W2, _, W2, g, _, W2, he, hres, fun _ _ => trivial, hinv, fun h => (by cases h), hcalls⟩

theorem code_wp {cl : Cl} {ag : Ag} {m n : Nat} {ro : Option Nat} {rd : Bool} (hm : P.follows .mixedOrders = true) (hN : NamesOk P) (hcl : ClOK P cl) (hag : AgOK P ag m) (hro : ro = none ∨ rd = true) (hn : n ≤ N) :
    ∀ (b : Code) (ρ : Rho) (S : AS) (w : World) (t : T) (a : Act) (k : KX) (Q : Exit → Act → World → Prop), RelA base ρ S w t a N → runA (comp P rd n b) cl ag t S k = some z → Outs base ρ S k z N Q → b.wpIn (FW ro) 0 P Q a w
  | .skip, ρ, S, w, t, a, k, Q, hr, h, hq => wpIn_skip (hq .normal t S ρ a w h ρ.le_refl (.refl ρ S) hr)
  | .label l, ρ, S, w, t, a, k, Q, hr, h, hq => wpIn_label (hq .normal t S ρ a w h ρ.le_refl (.refl ρ S) hr)
  | .exit i, ρ, S, w, t, a, k, Q, hr, h, hq => wpIn_exit (hq (.exit i) t S ρ a w h ρ.le_refl (.refl ρ S) hr)
  | .ret, ρ, S, w, t, a, k, Q, hr, h, hq => wpIn_ret (hq .ret t S ρ a w h ρ.le_refl (.refl ρ S) hr)
  | .region id ops d, ρ, S, w, t, a, k, Q, hr, h, hq => by
    have h : runA (bif dstsOk n ops then (bif rd && !noDefer ops then .bad else bif d then .region (compDrawn P ops) else .region (compL (ops.toList.map (compOper P ops)))) else .bad) cl ag t S k = some z := h
    cases hd : dstsOk n ops with
    | false => rw [hd] at h; cases h
    | true =>
      rw [hd] at h
      have hnd : ro = none ∨ noDefer ops = true := by
        rcases hro with h1 | h1
        · exact .inl h1
        · subst h1
          cases hx : noDefer ops with
          | true => exact .inr rfl
          | false => rw [hx] at h; cases h
      have h : runA (bif d then .region (compDrawn P ops) else .region (compL (ops.toList.map (compOper P ops)))) cl ag t S k = some z := by
        cases hx : (rd && !noDefer ops) with
        | true => rw [hx] at h; cases h
        | false => rw [hx] at h; exact h
      have hq' : Ends base ρ S (k .normal) z N (Q .normal) := fun t' S' ρ' a' w' h1 h2 h3 h4 => hq .normal t' S' ρ' a' w' h1 h2 h3 h4
      cases d with
      | true => exact drawn_region hm hN hcl hd hn hr h hq'
      | false =>
        refine wpIn_region ?_
        have hd' : dstsOk N ops = true := by
          refine List.all_eq_true.2 fun o ho => ?_
          have := List.all_eq_true.1 hd o ho
          cases hdst : o.dst with
          | none => rfl
          | some d =>
            rw [hdst] at this
            have hlt : d < n := ble_true (show Nat.ble (d + 1) n = true from this)
            exact Nat.ble_eq_true_of_le (Nat.lt_of_lt_of_le hlt hn)
        have := plain_region (base := base) (z := z) (Q := Q) hN hcl hd' hnd ops.toList 0 ρ S w t a (by simp) hr h hq'
        rw [Array.length_toList] at this
        rw [List.range_eq_range']
        exact this
  | .seq x y, ρ, S, w, t, a, k, Q, hr, h, hq => by
    refine wpIn_seq (code_wp hm hN hcl hag hro hn x ρ S w t a _ _ hr (show runA (comp P rd n x) cl ag t S (fun x t S => AX.rec (runA (comp P rd n y) cl ag t S k) (k .ret t S) (fun i => k (.exit i) t S) x) = some z from h) fun e t' S' ρ' a' w' h1 h2 h3 h4 => ?_)
    cases e with
    | normal => exact code_wp hm hN hcl hag hro hn y ρ' S' w' t' a' k Q h4 h1 (hq.step h2 h3)
    | ret => exact hq .ret t' S' ρ' a' w' h1 h2 h3 h4
    | exit i => exact hq (.exit i) t' S' ρ' a' w' h1 h2 h3 h4
  | .cond c x y, ρ, S, w, t, a, k, Q, hr, h, hq => by
    cases hc : ofOperand c with
    | none =>
      have h : runA (match ofOperand c with | some c => .cond c (comp P rd n x) (comp P rd n y) | none => .bad) cl ag t S k = some z := h
      rw [hc] at h
      cases h
    | some c' =>
      have h : runA (match ofOperand c with | some c => .cond c (comp P rd n x) (comp P rd n y) | none => .bad) cl ag t S k = some z := h
      rw [hc] at h
      obtain ⟨b, hb, h⟩ := onBool_some (show onBool (ev c' t) (fun b => ifB b (runA (comp P rd n x) cl ag t S k) (runA (comp P rd n y) cl ag t S k)) = some z from h)
      have hd := hr.tmps.ev c c' hc
      rw [hb] at hd
      generalize hv : a.eval c = v at hd
      cases hd
      cases b with
      | true => exact wpIn_cond_true hv (code_wp hm hN hcl hag hro hn x ρ S w t a k Q hr h hq)
      | false => exact wpIn_cond_false hv (code_wp hm hN hcl hag hro hn y ρ S w t a k Q hr h hq)
  | .block id b, ρ, S, w, t, a, k, Q, hr, h, hq => by
    refine wpIn_block (code_wp hm hN hcl hag hro hn b ρ S w t a _ _ hr (show runA (comp P rd n b) cl ag t S (fun x t S => AX.rec (k .normal t S) (k .ret t S) (fun i => ifB (Nat.beq i id) (k .normal t S) (k (.exit i) t S)) x) = some z from h) fun e t' S' ρ' a' w' h1 h2 h3 h4 => ?_)
    cases e with
    | normal => exact hq .normal t' S' ρ' a' w' h1 h2 h3 h4
    | ret => exact hq .ret t' S' ρ' a' w' h1 h2 h3 h4
    | exit i =>
      show if i = id then Q .normal a' w' else Q (.exit i) a' w'
      rcases ifB_or (show ifB (Nat.beq i id) (k .normal t' S') (k (.exit i) t' S') = some z from h1) with ⟨hb, h1⟩ | ⟨hb, h1⟩
      · rw [if_pos (beq_true hb)]
        exact hq .normal t' S' ρ' a' w' h1 h2 h3 h4
      · rw [if_neg (beq_false hb)]
        exact hq (.exit i) t' S' ρ' a' w' h1 h2 h3 h4
  | .scope b, ρ, S, w, t, a, k, Q, hr, h, hq => by
    refine wpIn_scope (code_wp hm hN hcl hag hro hn b ρ S w t a k _ hr h fun e t' S' ρ' a' w' h1 h2 h3 h4 => ?_)
    cases e with
    | normal => exact hq .normal t' S' ρ' a' w' h1 h2 h3 h4
    | ret => exact hq .ret t' S' ρ' a' w' h1 h2 h3 h4
    | exit i => exact hq (.exit i) t' S' ρ' a' w' h1 h2 h3 h4
  | .loop b, ρ, S, w, t, a, k, Q, hr, h, hq => wpIn_loop_rounds (m + 1) (loop_round hro hag hn (code_wp hm hN hcl hag hro hn b) hr h hq)
  | .goto l, ρ, S, w, t, a, k, Q, hr, h, hq => by cases h
  | .rangeFunc f ps x b, ρ, S, w, t, a, k, Q, hr, h, hq => by
    have h : runA (bif rd then .bad else bif tmpsOk n ps then (match ofOperand f with | some f => .range f (ps.toList.map pathOf) x b n | none => .bad) else .bad) cl ag t S k = some z := h
    cases hrd : rd with
    | true => rw [hrd] at h; cases h
    | false =>
      rw [hrd] at h
      have hro' : ro = none := hro.resolve_right (by rw [hrd]; intro h; cases h)
      subst hro'
      cases hps : tmpsOk n ps with
      | false => rw [hps] at h; cases h
      | true =>
        rw [hps] at h
        cases hf : ofOperand f with
        | none => rw [hf] at h; cases h
        | some f' =>
          rw [hf] at h
          exact range_wp hN hcl hn hps hf hr h hq
  | .refuse r, ρ, S, w, t, a, k, Q, hr, h, hq => by cases h
end Go.Proofs.YtpochibfjpanhaaGreat.Exe
