/- A part of the machine that reckons a closed run, and of the proof that what it says the given program does. No conditions. -/
import Derived.Test.YtpochibfjpanhaaGreatYo
import Derived.Test.YtpochibfjpanhaaGreatZn
set_option linter.unusedVariables false
set_option linter.unusedSimpArgs false
namespace Go.Proofs.YtpochibfjpanhaaGreat.Exe
open Go
variable {base w : World} {P : Program} {ρ : Rho} {S : AS} {t : T} {c : K} {z : AV × Option AS} {a : Act}

/-! ### Results -/
theorem run_loadVar_of {ty : TypeId} {p : List D4} {n m : Nat} {v : AV × Option AS} (hm : p = pathOf m) (hk : known P ty = true) (hn : n = sizeT P ty) (ht : TRel ρ t a) (hw : WRel base ρ S w) (h : kLoad (aggT P ty) n (.tmp p) t S (fun v S => some (v, some S)) = some v) :
    ∃ ad u, a.tmps.getD m undef = .pointer (some ad) ∧ (loadVar ty ad).run P w = .ok u w ∧ Den ρ v.1 u := by
  subst hm; subst hn
  obtain ⟨d, hd, hsz⟩ := known_some hk
  obtain ⟨b, off, hv, h⟩ := onPtr_some h
  obtain ⟨el, es, cs, hb, h⟩ := onCells_some h
  obtain ⟨v', hval, h⟩ := retO_some h
  cases h
  have hdx := ht m
  have hv : evTmp (pathOf m) t = .ptr b off := hv
  rw [hv] at hdx
  generalize hex : a.tmps.getD m undef = ex at hdx
  cases hdx with
  | @ptr _ _ r x' hρ =>
    obtain ⟨us, tail, fz, hh, hc, _, _⟩ := hw.cells hb hρ
    rcases valueK_some hc hval with ⟨ha, hlen, hden⟩ | ⟨ha, u, hu, hden, _⟩
    · obtain ⟨d', hd', hrow⟩ := aggT_true ha
      have hr := rangeAt_of hh off (sizeT P ty)
      have e1 : ((us ++ tail).drop off).take (sizeT P ty) = (us.drop off).take (sizeT P ty) := by
        rw [List.drop_append_of_le_length (by omega), List.take_append_of_le_length (by rw [List.length_drop]; omega)]
      rw [e1] at hr
      have hl : ((us.drop off).take (sizeT P ty)).length = sizeT P ty := by rw [List.length_take, List.length_drop]; omega
      exact ⟨_, _, rfl, run_loadVar_mid (P := P) w r off ty _ d' hr hd' hrow (by rw [hl]; exact hsz), hden⟩
    · have hcell : w.cell? ⟨r, off, none⟩ = some u := cell?_of hh (by rw [List.getElem?_append_left (by rcases Nat.lt_or_ge off us.length with h' | h'; exact h'; rw [List.getElem?_eq_none h'] at hu; cases hu)]; exact hu)
      exact ⟨_, u, rfl, by simp [loadVar, run_isAgg_false hd ha, load, Sem.run, hcell], hden⟩

theorem resK_cons (t : T) (S : AS) (p : List D4 × Option (Bool × Nat)) (l : List (List D4 × Option (Bool × Nat))) : resK t S (p :: l) = Option.rec (onSome (resK t S l) fun r => some (evTmp p.1 t :: r)) (fun q => onSome (kLoad q.1 q.2 (.tmp p.1) t S fun v S => some (v, some S)) fun v => onSome (resK t S l) fun r => some (v.1 :: r)) p.2 := rfl

def resOne (tmps : Array Value) : ResultVar → Sem Value
  | .tmp t => pure (tmps.getD t undef)
  | .cell ad t => do loadVar t (← asAddr (tmps.getD ad undef))
theorem results_list (ht : TRel ρ t a) (hw : WRel base ρ S w) : ∀ (l : List ResultVar) (vs : List AV), (l.all (fun r => match r with | .tmp _ => true | .cell _ t => known P t)) = true → resK t S (l.map fun | .tmp t => (pathOf t, none) | .cell a t => (pathOf a, some (aggT P t, sizeT P t))) = some vs →
    ∃ us, DenL ρ vs us ∧ (l.mapM (resOne a.tmps)).run P w = .ok us w
  | [], vs, _, h => by
    cases h
    exact ⟨[], .nil, rfl⟩
  | .tmp n :: l, vs, hk, h => by
    rw [List.map_cons, resK_cons] at h
    obtain ⟨r, hr, h⟩ := onSome_some (show onSome (resK t S _) (fun r => some (evTmp (pathOf n) t :: r)) = some vs from h)
    cases h
    obtain ⟨us, hd, hrun⟩ := results_list ht hw l r (by simpa using hk) hr
    refine ⟨a.tmps.getD n undef :: us, .cons (ht n) hd, ?_⟩
    rw [List.mapM_cons]
    simp [resOne, hrun]
  | .cell ad ty :: l, vs, hk, h => by
    rw [List.map_cons, resK_cons] at h
    obtain ⟨v, hv, h⟩ := onSome_some (show onSome (kLoad (aggT P ty) (sizeT P ty) (.tmp (pathOf ad)) t S fun v S => some (v, some S)) (fun v => onSome (resK t S _) fun r => some (v.1 :: r)) = some vs from h)
    obtain ⟨r, hr, h⟩ := onSome_some h
    cases h
    rw [List.all_cons, Bool.and_eq_true] at hk
    obtain ⟨us, hd, hrun⟩ := results_list ht hw l r hk.2 hr
    obtain ⟨adr, u, h1, h2, h3⟩ := run_loadVar_of (n := sizeT P ty) rfl hk.1 rfl ht hw hv
    refine ⟨u :: us, .cons h3 hd, ?_⟩
    rw [List.mapM_cons]
    simp [resOne, hrun, h1, h2, asAddr]

theorem oneK_den {vs : List AV} {us : List Value} (h : DenL ρ vs us) : Den ρ (oneK vs) (if h : us.toArray.size = 1 then us.toArray[0] else .tuple us.toArray) := by
  cases h with
  | nil => exact .tup .nil
  | @cons v u vs us hv h =>
    cases h with
    | nil => exact hv
    | @cons v2 u2 vs us hv2 h =>
      have : ¬ (u :: u2 :: us).toArray.size = 1 := by simp
      rw [dif_neg this]
      exact .tup (.cons hv (.cons hv2 h))

theorem results_run {fn : Func} (ht : TRel ρ t a) (hw : WRel base ρ S w) {vs : List AV} (hk : (fn.results.toList.all (fun r => match r with | .tmp _ => true | .cell _ t => known P t)) = true) (h : resK t S (fn.results.toList.map fun | .tmp t => (pathOf t, none) | .cell a t => (pathOf a, some (aggT P t, sizeT P t))) = some vs) :
    ∃ u, Den ρ (oneK vs) u ∧ (results fn a.tmps).run P w = .ok u w := by
  obtain ⟨us, hd, hrun⟩ := results_list ht hw _ _ hk h
  refine ⟨_, oneK_den hd, ?_⟩
  have e1 : results fn a.tmps = (do let vs ← fn.results.mapM (resOne a.tmps); pure (if h : vs.size = 1 then vs[0] else .tuple vs)) := by
    unfold results
    rfl
  rw [e1, Array.mapM_eq_mapM_toList]
  simp [hrun]

/-! ### Calls -/
theorem args_rel : ∀ (vs : List AV) (us : List Value) (n : Nat) (t : T) (f : Nat → Value), DenL ρ vs us → (∀ m, Den ρ (evTmp (pathOf m) t) (f m)) → ∀ m, Den ρ (evTmp (pathOf m) (argsK vs n t)) (if n ≤ m ∧ m < n + us.length then us.getD (m - n) undef else f m)
  | [], us, n, t, f, h, hf, m => by
    cases h
    rw [if_neg (by simp)]
    exact hf m
  | v :: vs, us, n, t, f, h, hf, m => by
    cases h with
    | @cons _ u _ us hv h =>
      show Den ρ (evTmp (pathOf m) (argsK vs (n + 1) (T.setP v (pathOf n) t))) _
      have ih := args_rel vs us (n + 1) (T.setP v (pathOf n) t) (fun m => if m = n then u else f m) h (fun m => by
        by_cases hm : m = n
        · subst hm; rw [evTmp_put, if_pos rfl]; exact hv
        · rw [evTmp_put_ne hm, if_neg hm]; exact hf m) m
      by_cases h1 : n + 1 ≤ m ∧ m < n + 1 + us.length
      · rw [if_pos h1] at ih
        rw [if_pos (by simp; omega)]
        obtain ⟨j, hj⟩ : ∃ j, m - n = j + 1 := ⟨m - n - 1, by omega⟩
        rw [hj]
        rw [show m - (n + 1) = j by omega] at ih
        exact ih
      · rw [if_neg h1] at ih
        by_cases hm : m = n
        · subst hm
          rw [if_pos rfl] at ih
          rw [if_pos (by simp), Nat.sub_self]
          exact ih
        · rw [if_neg hm] at ih
          rw [if_neg (by simp; omega)]
          exact ih
def FTOk (P : Program) (FT : PT AF) : Prop := ∀ g af, FT.getK g = some af → ∃ fn, P.funcs[g]? = some fn ∧ compFn P fn = some af

/-! ### The calls that were put off -/
theorem WRel.dfr (h : WRel base ρ S w) {b r x : Nat} (hb : S.heap.getK b = some (.dfr true)) (e : ρ b = some (r, x)) : w.heap[r]? = some (.deferred (some [])) := by
  obtain ⟨u, hu, ho⟩ := h.obj b _ r x hb e
  cases ho with
  | dfr => exact hu
theorem offK_cons (cl : Cl) (v : AV) (l : List AV) (S : AS) (k : AS → R) : offK cl (v :: l) S k = ifB (Nat.beq (nilNo v) 13) (onMap v fun b => onDfr S b fun d => ifB d (offK cl l (putK S b (.dfr false)) k) none) (onFn v fun g as _ => cl (.dfn g) as S fun _ S => offK cl l S k) := rfl
theorem off_ok {cl : Cl} {fn : Func} {tmps : Array Value} {R' : Ending → World → Prop} (hN : NamesOk P) (hcl : ClOK P cl) : ∀ (l : List AV) (ds : List Deferred) (ρ : Rho) (S : AS) (w : World) (k : AS → R), DfRel ρ l ds → WRel base ρ S w → offK cl l S k = some z →
    (∀ S' ρ' w', k S' = some z → ρ.le ρ' → Keep ρ ρ' S S' → WRel base ρ' S' w' → ∃ v, (results fn tmps).run P w' = .ok v w' ∧ R' (.returned v) w') → LeavesInM (FW none) 0 P fn tmps R' ds .returning w
  | [], _, ρ, S, w, k, .nil, hw, h, hR => hR S ρ w h ρ.le_refl (.refl ρ S) hw
  | _ :: l, _, ρ, S, w, k, .mark (b := b) (r := r) e hr, hw, h, hR => by
    rw [offK_cons] at h
    obtain ⟨b', hb', h⟩ := onMap_some (show onMap (.map b) (fun b => onDfr S b fun d => ifB d (offK cl l (putK S b (.dfr false)) k) none) = some z from h)
    cases hb'
    obtain ⟨d, hb, h⟩ := onDfr_some h
    obtain ⟨hd, h⟩ := ifB_some h
    subst hd
    have hh := hw.dfr hb e
    refine ⟨(by intro h; cases h), .inl ⟨r, w.putObj r (.deferred none), rfl, ?_, off_ok hN hcl l _ ρ _ _ k hr (hw.put ⟨_, hb⟩ e .gone) h fun S' ρ' w' h1 h2 h3 h4 => hR S' ρ' w' h1 h2 ((Keep.put e).trans h3) h4⟩⟩
    simp [Instr.takeDeferred, getObj, setObj, Sem.run, hh, World.putObj]
  | _ :: l, _, ρ, S, w, k, .fn (g := g) (as := as) (us := us) (dargs := dargs) (cap := cap) ha hc hr, hw, h, hR => by
    rw [offK_cons] at h
    have h : cl (.dfn g) as S (fun _ S => offK cl l S k) = some z := h
    obtain ⟨hcalls, fnn, hfn, hb⟩ := hcl base ρ S w (.dfn g) as us _ z (fun
      | .returned _, w' => LeavesInM (FW none) 0 P fn tmps R' _ .returning w'
      | .panicked chain, w' => LeavesInM (FW none) 0 P fn tmps R' _ (raised .returning chain) w'
      | .outgrown, w' => R' .outgrown w') hw ha h (fun v S' ρ' w' u h1 h2 h3 h4 _ => off_ok hN hcl l _ ρ' S' w' k (hr.mono h2) h4 h1 fun S'' ρ'' w'' g1 g2 g3 g4 => hR S'' ρ'' w'' g1 (Rho.le_trans h2 g2) (h3.trans g3) g4)
    have hinv : (invoke (.fn (.func g) cap) dargs).run P w = .ok (.enter g us.toArray) w := by
      have := names_call (args := us.toArray) hfn (hN g fnn hfn) hb w
      rw [← this, ← hc]
      rfl
    refine ⟨(by intro h; cases h), .inr ⟨fun h => (by cases h), .func g, cap, g, us.toArray, rfl, hinv, fun _ _ => trivial, CallsDIn.mono (F := FW none) (n := 0) (hcalls .returning) fun e u' w' h => ?_⟩⟩
    obtain ⟨rfl, h⟩ := h
    cases e <;> exact h

/-! ### Rounds -/
theorem psK_cons (p : List D4) (ps : List (List D4)) (v : AV) (as : List AV) (t : T) (k : T → R) : psK (p :: ps) (v :: as) t k = psK ps as (t.setP v p) k := setTC_eq p v t _
theorem psK_some : ∀ (ps : List Tmp) (as : List AV) (us : List Value) (t : T) (tm : Array Value) (k : T → R), DenL ρ as us → (∀ p ∈ ps, p < tm.size) → (∀ m, Den ρ (evTmp (pathOf m) t) (tm.getD m undef)) → psK (ps.map pathOf) as t k = some z →
    us.length = ps.length ∧ ∃ t', k t' = some z ∧ t'.off = t.off ∧ (∀ m, Den ρ (evTmp (pathOf m) t') (((ps.zip us).foldl (fun tm p => tm.setIfInBounds p.1 p.2) tm).getD m undef)) ∧ ((ps.zip us).foldl (fun tm p => tm.setIfInBounds p.1 p.2) tm).size = tm.size
  | [], [], _, t, tm, k, .nil, _, ht, h => ⟨rfl, t, h, rfl, ht, rfl⟩
  | [], _ :: _, _, t, tm, k, .cons _ _, _, ht, h => by cases h
  | p :: ps, [], _, t, tm, k, .nil, _, ht, h => by cases h
  | p :: ps, v :: as, u :: us, t, tm, k, .cons hv hl, hp, ht, h => by
    rw [List.map_cons, psK_cons] at h
    have hlt : p < tm.size := hp p List.mem_cons_self
    obtain ⟨h1, t', h2, h3, h4, h5⟩ := psK_some ps as us (t.setP v (pathOf p)) (tm.setIfInBounds p u) k hl (fun q hq => by simpa using hp q (List.mem_cons_of_mem _ hq)) (fun m => by
      by_cases hm : m = p
      · subst hm
        rw [evTmp_put]
        simpa [Array.getD, hlt] using hv
      · rw [evTmp_put_ne hm, Array.getD_eq_getD_getElem?, Array.getElem?_setIfInBounds_ne (Ne.symm hm), ← Array.getD_eq_getD_getElem?]
        exact ht m) h
    refine ⟨by simpa using h1, t', h2, by rw [h3, off_setP], ?_, ?_⟩
    · exact h4
    · rw [List.zip_cons_cons, List.foldl_cons, h5]; simp

theorem run_yield {w : World} {r : Nat} {l : Loop} {us : List Value} (h : w.heap[r]? = some (.loop l)) (hs : us.length = l.params.toList.length) :
    (Instr.yield r us.toArray).run P w = .ok (.round r l.fn ((l.params.toList.zip us).foldl (fun tm p => tm.setIfInBounds p.1 p.2) l.tmps) l.assign l.body) w := by
  have h1 : ¬ (us.toArray.size ≠ l.params.size) := by simpa using hs
  have h2 : (l.params.zip us.toArray).foldl (fun tm (p : Tmp × Value) => tm.setIfInBounds p.1 p.2) l.tmps = (l.params.toList.zip us).foldl (fun tm p => tm.setIfInBounds p.1 p.2) l.tmps := by
    rw [← Array.foldl_toList]
    simp
  simp only [Instr.yield, Sem.run_bind, run_getLoop h, Result.andThen_ok]
  rw [if_neg h1]
  simp only [Sem.run_pure]
  rw [← h2]
theorem run_beginRound {w : World} {r : Nat} {l : Loop} (h : w.heap[r]? = some (.loop l)) (hs : stNo l.state = 0) : (Instr.beginRound r).run P w = .ok () (w.putObj r (.loop { l with state := .busy })) := by
  obtain ⟨st, pe, fn, tmps, params, assign, body, defers⟩ := l
  cases st with
  | ready => simp [Instr.beginRound, run_getLoop h, run_setLoop _ h]
  | _ => cases hs
theorem run_endRound {w : World} {r : Nat} {l : Loop} (h : w.heap[r]? = some (.loop l)) (j : Option Code) : (Instr.endRound r j).run P w = .ok (.bool j.isNone) (w.putObj r (.loop { l with state := if j.isNone then .ready else .done, pending := j })) := by
  simp [Instr.endRound, run_getLoop h, run_setLoop _ h]

/-! ### Calls whose answers are known ahead -/
noncomputable def pureV (v : AV) : Bool :=
  AV.rec (motive_1 := fun _ => Bool) (motive_2 := fun _ => Bool) (fun _ => true) (fun _ _ => true) (fun _ => true) true (fun _ _ => false) true (fun _ _ _ _ _ => false) true (fun _ => false) true (fun _ _ _ i1 i2 => ifB i1 i2 false) true (fun _ _ i => i) (fun _ i => i) (fun _ _ => true) (fun _ i => i) false (fun _ => false) false (fun _ _ => false) (fun _ => false) true (fun _ _ i1 i2 => ifB i1 i2 false) v
noncomputable def pureL (l : List AV) : Bool := pureV (.tup l)
theorem pureL_cons {v : AV} {l : List AV} (h : pureL (v :: l) = true) : pureV v = true ∧ pureL l = true := ifB_bool (show ifB (pureV v) (pureL l) false = true from h)
mutual
theorem Den.pure {ρ σ : Rho} {v : AV} {u : Value} (h : pureV v = true) (d : Den ρ v u) : Den σ v u := by
  cases d with
  | bool b => exact .bool b
  | int k n => exact .int k n
  | str s => exact .str s
  | pnil => exact .pnil
  | ptr e => cases h
  | snil => exact .snil
  | sl e => cases h
  | mnil => exact .mnil
  | map e => cases h
  | fnil => exact .fnil
  | @fn f a c a' c' x y =>
    obtain ⟨h1, h2⟩ := ifB_bool (show ifB (pureL a) (pureL c) false = true from h)
    exact .fn (x.pure h1) (y.pure h2)
  | inil => exact .inil
  | ifc a => exact .ifc (a.pure h)
  | agg a => exact .agg (a.pure h)
  | tup a => exact .tup (a.pure h)
  | junk => cases h
  | yl e => cases h
  | raw r o => cases h
  | lit e e' => cases h
  | any e e' => cases h
theorem DenL.pure {ρ σ : Rho} {v : List AV} {u : List Value} (h : pureL v = true) (d : DenL ρ v u) : DenL σ v u := by
  cases d with
  | nil => exact .nil
  | cons a b => exact .cons (a.pure (pureL_cons h).1) (b.pure (pureL_cons h).2)
theorem Cells.pure {ρ σ : Rho} {v : List AV} {u : List Value} (h : pureL v = true) (d : Cells ρ v u) : Cells σ v u := by
  cases d with
  | nil => exact .nil
  | bytes a => exact .bytes (a.pure (pureL_cons h).2)
  | one o a b => exact .one o (a.pure (pureL_cons h).1) (b.pure (pureL_cons h).2)
end
/-- A world that has grown by what nobody of ours knows of. -/
structure Grown (w w' : World) : Prop where
  low : ∀ r, r < w.heap.size → w'.heap[r]? = w.heap[r]?
  size : w.heap.size ≤ w'.heap.size
  os : w'.os = w.os
  output : w'.output = w.output
  tape : w'.tape = w.tape
theorem WRel.grown (h : WRel base ρ S w) {w' : World} (g : Grown w w') : WRel base ρ S w' :=
  { low := fun r hr => by rw [g.low r (Nat.lt_of_lt_of_le hr h.size)]; exact h.low r hr, size := Nat.le_trans h.size g.size, os := g.os.trans h.os, output := g.output.trans h.output, tape := g.tape.trans h.tape, dom := h.dom, rng := fun b r x e => ⟨(h.rng b r x e).1, Nat.lt_of_lt_of_le (h.rng b r x e).2 g.size⟩, inj := h.inj, obj := fun b o r x hb e => by
      obtain ⟨u, hu, ho⟩ := h.obj b o r x hb e
      exact ⟨u, by rw [g.low r (h.rng b r x e).2]; exact hu, ho⟩ }
def MemoOK (P : Program) (tab : Memo) : Prop := ∀ g xs v, (g, xs, v) ∈ tab → pureL xs = true ∧ ∀ us, DenL (fun _ => none) xs us → (∃ fn, P.funcs[g]? = some fn ∧ fn.body.isNone = false) ∧
  ∀ w, CallsIn (FW none) 0 P g us.toArray w fun e w' => ∃ u, e = .returned u ∧ Den (fun _ => none) v u ∧ Grown w w'
theorem hitK_some {tab : Memo} {g : FuncId} {as : List AV} {k : AV → R} {miss : R} (h : hitK tab g as k miss = some z) : miss = some z ∨ ∃ v, (g, as, v) ∈ tab ∧ k v = some z := by
  induction tab with
  | nil => exact .inl h
  | cons e tab ih =>
    obtain ⟨f, xs, v⟩ := e
    have h : ifB (Nat.beq f g) (ifB (sameV (.tup xs) (.tup as)) (k v) (hitK tab g as k miss)) (hitK tab g as k miss) = some z := h
    rcases ifB_or h with ⟨h1, h⟩ | ⟨_, h⟩
    · rcases ifB_or h with ⟨h2, h3⟩ | ⟨_, h⟩
      · have e1 := beq_true h1
        have e2 : xs = as := by
          have := sameV_eq _ _ h2
          injection this
        rw [e1, e2]
        exact .inr ⟨v, List.mem_cons_self, h3⟩
      · exact (ih h).imp id fun ⟨v, h1, h2⟩ => ⟨v, List.mem_cons_of_mem _ h1, h2⟩
    · exact (ih h).imp id fun ⟨v, h1, h2⟩ => ⟨v, List.mem_cons_of_mem _ h1, h2⟩

/-- Functions without a body: what ours does they do. -/
def ExtOK (P : Program) (l : List (Nat × XF)) : Prop := ∀ g f, (g, f) ∈ l → ∀ (base : World) (ρ : Rho) (S : AS) (w : World) (xs : List AV) (us : List Value) (k : K) (z : AV × Option AS), WRel base ρ S w → DenL ρ xs us → f xs S k = some z →
  ∃ v S' ρ' w' u, k v S' = some z ∧ ρ.le ρ' ∧ Keep ρ ρ' S S' ∧ WRel base ρ' S' w' ∧ Den ρ' v u ∧ (callFunc g us.toArray).run P w = .ok (.value u) w'
theorem ext_nil : ExtOK P [] := fun _ _ h => by cases h
/-- What a run is given is as it should be. -/
structure OptOK (P : Program) (tab : Opt) : Prop where
  all : tab.first = false
  ext : ExtOK P tab.ext
theorem extK_some {l : List (Nat × XF)} {g : Nat} {xs : List AV} {k : K} {miss : R} (h : extK l g xs S k miss = some z) : miss = some z ∨ ∃ f, (g, f) ∈ l ∧ f xs S k = some z := by
  induction l with
  | nil => exact .inl h
  | cons e l ih =>
    rcases ifB_or (show ifB (Nat.beq e.1 g) (e.2 xs S k) (extK l g xs S k miss) = some z from h) with ⟨h1, h2⟩ | ⟨_, h2⟩
    · refine .inr ⟨e.2, ?_, h2⟩
      rw [← beq_true h1]
      exact List.mem_cons_self
    · exact (ih h2).imp id fun ⟨f, a, b⟩ => ⟨f, List.mem_cons_of_mem _ a, b⟩
theorem call_ok {FT : PT AF} {tab : Opt} {ag : Ag} {cl : Cl} {m : Nat} (n1 : Nat) (hX : OptOK P tab) (hM : MemoOK P tab.memo) (hF : FTOk P FT) (hm : P.follows .mixedOrders = true) (hN : NamesOk P) (hcl : ClOK P cl) (hag : AgOK P ag m) : ClOK P (callOf FT (comp P true) tab n1 ag cl) := by
  intro base ρ S w e args us k z R hw hl h hR
  have start : ∀ (n : Nat), TRel ρ (argsK args 0 T.nil) { tmps := us.toArray ++ Array.replicate (n - us.toArray.size) undef, defers := [] } := fun n => fun m => by
    have := args_rel args us 0 T.nil (fun _ => undef) hl (fun m => by rw [nil_get]; exact .junk _) m
    have e2 : (us.toArray ++ Array.replicate (n - us.toArray.size) undef).getD m undef = if 0 ≤ m ∧ m < 0 + us.length then us.getD (m - 0) undef else undef := by
      by_cases hn : m < us.length
      · rw [if_pos (by omega), Array.getD_eq_getD_getElem?, Array.getElem?_append_left (by simpa using hn)]
        simp
      · rw [if_neg (by omega), Array.getD_eq_getD_getElem?, Array.getElem?_append_right (by simpa using hn), Array.getElem?_replicate]
        split <;> rfl
    show Den ρ _ ((us.toArray ++ Array.replicate (n - us.toArray.size) undef).getD m undef)
    rw [e2]
    exact this
  have off0 : ∀ (vs : List AV) (n : Nat) (t : T), (argsK vs n t).off = t.off := fun vs => by
    induction vs with
    | nil => exact fun n t => rfl
    | cons v vs ih => exact fun n t => (ih (Nat.succ n) (t.setP v (pathOf n))).trans (off_setP v _ t)
  have hfnOf : ∀ g : FuncId, fnOf FT tab n1 ag cl g args S k = some z → CEOK P ρ (.fn g) us w R := by
    intro g h
    have h : hitK tab.memo g args (fun v => k v S) (mergeK tab.mg g (tab.guess n1 (.fn g) args S) (callFn FT ag cl g args S) S k) = some z := h
    rcases hitK_some h with h | ⟨v, hmem, h⟩
    case inr =>
      obtain ⟨hp, hc⟩ := hM g args v hmem
      obtain ⟨hfn, hc⟩ := hc us (hl.pure hp)
      refine ⟨CallsIn.mono (hc w) fun e w' he => ?_, hfn⟩
      obtain ⟨u, rfl, hu, hg⟩ := he
      exact hR v S ρ w' u h ρ.le_refl (.refl ρ S) (hw.grown hg) (hu.mono fun _ _ h => by cases h)
    have key : ∀ (k : K) (z : AV × Option AS), callFn FT ag cl g args S k = some z → (∀ v S' ρ' w' u, k v S' = some z → ρ.le ρ' → Keep ρ ρ' S S' → WRel base ρ' S' w' → Den ρ' v u → R (.returned u) w') → CEOK P ρ (.fn g) us w R := by
      intro k z h hR
      rw [callFn_eq] at h
      obtain ⟨af, haf, h⟩ := onSome_some h
      obtain ⟨fn, hfn, hc⟩ := hF g af haf
      obtain ⟨c, hb, hc⟩ := bind_some hc
      obtain ⟨hk, hc⟩ := bif_some hc
      cases hc
      refine ⟨callsIn_of_wp_marks hfn hb trivial ?_, fn, hfn, by rw [hb]; rfl⟩
      let a0 : Act := { tmps := us.toArray ++ Array.replicate (fn.ntmps - us.toArray.size) undef, defers := [] }
      have hsz : fn.ntmps ≤ a0.tmps.size := by show _ ≤ (us.toArray ++ Array.replicate _ _).size; simp; omega
      have hdf : DfRel ρ (argsK args 0 T.nil).off a0.defers := by rw [off0]; exact .nil
      refine code_wp (N := a0.tmps.size) (ro := none) (rd := false) hm hN hcl hag (.inl rfl) hsz c ρ S w _ a0 _ _ ⟨hw, start _, hdf, rfl⟩ h fun x t' S' ρ' a' w' h1 h2 h3 h4 => ?_
      have fin : offK cl t'.off S' (fun S => endK _ k t' S) = some z → LeavesInM (FW none) 0 P fn a'.tmps R a'.defers .returning w' := fun h => by
        refine off_ok hN hcl _ _ ρ' S' w' _ h4.defers h4.world h fun S'' ρ'' w'' g1 g2 g3 g4 => ?_
        obtain ⟨vs, hvs, g1⟩ := onSome_some g1
        obtain ⟨u, hu, hrun⟩ := results_run (h4.tmps.mono g2) g4 hk hvs
        exact ⟨u, hrun, hR _ _ _ _ _ g1 (Rho.le_trans h2 g2) (h3.trans g3) g4 hu⟩
      cases x with
      | normal => exact fin h1
      | ret => exact fin h1
      | exit i => cases h1
    rcases mergeK_some h with h | ⟨v2, S2, h1, h2⟩
    · exact key k z h hR
    · refine key _ _ h1 fun v S' ρ' w' u g1 g2 g3 g4 g5 => ?_
      obtain ⟨ms, hms⟩ := matchK_some g1
      obtain ⟨ρ2, r1, r2, r3, r4⟩ := match_ok hw hms g2 g3 g4 g5
      exact hR v2 S2 ρ2 w' u h2 r1 r2 r3 r4
  cases e with
  | fn g => exact hfnOf g h
  | xfn g =>
    rcases extK_some (show extK tab.ext g args S k (fnOf FT tab n1 ag cl g args S k) = some z from h) with h | ⟨f, hf, h⟩
    · exact .inl (hfnOf g h)
    · obtain ⟨v, S', ρ', w', u, h1, h2, h3, h4, h5, h6⟩ := hX.ext g f hf base ρ S w args us k z hw hl h
      exact .inr ⟨u, w', h6, hR v S' ρ' w' u h1 h2 h3 h4 h5⟩
  | nx =>
    have h : nxK tab.first args S k = some z := h
    rw [hX.all] at h
    obtain ⟨v, ha, h⟩ := on1_some h
    rw [ha] at hl
    cases hl with
    | cons d dn =>
      cases dn
      obtain ⟨v1, S', ρ', w', u, h1, h2, h3, h4, h5, h6⟩ := next_ok (P := P) d hw (show nextV v S k = some z from h)
      exact ⟨u, w', h6, hR v1 S' ρ' w' u h1 h2 h3 h4 h5⟩
  | dfn g =>
    have h : callDfn FT ag cl g args S k = some z := h
    rw [callDfn_eq] at h
    obtain ⟨af, haf, h⟩ := onSome_some h
    obtain ⟨fn, hfn, hc⟩ := hF g af haf
    obtain ⟨c, hb, hc⟩ := bind_some hc
    obtain ⟨hk, hc⟩ := bif_some hc
    cases hc
    refine ⟨fun u => callsDIn_of_wp hfn hb trivial ?_, fn, hfn, by rw [hb]; rfl⟩
    let a0 : Act := { tmps := us.toArray ++ Array.replicate (fn.ntmps - us.toArray.size) undef, defers := [] }
    have hsz : fn.ntmps ≤ a0.tmps.size := by show _ ≤ (us.toArray ++ Array.replicate _ _).size; simp; omega
    have hdf : DfRel ρ (argsK args 0 T.nil).off a0.defers := by rw [off0]; exact .nil
    refine code_wp (N := a0.tmps.size) (ro := none) (rd := false) hm hN hcl hag (.inl rfl) hsz c ρ S w _ a0 _ _ ⟨hw, start _, hdf, rfl⟩ h fun x t' S' ρ' a' w' h1 h2 h3 h4 => ?_
    have fin : goneK t'.off (endK _ k t' S') = some z → a'.defers = [] ∧ ∃ v, (results fn a'.tmps).run P w' = .ok v w' ∧ R (.returned v) w' := fun h => by
      have h4d := h4.defers
      cases ho : t'.off with
      | nil =>
        rw [ho] at h h4d
        obtain ⟨vs, hvs, g1⟩ := onSome_some (show endK _ k t' S' = some z from h)
        obtain ⟨u, hu, hrun⟩ := results_run h4.tmps h4.world hk hvs
        generalize hds : a'.defers = ds at h4d
        cases h4d
        exact ⟨rfl, u, hrun, hR _ _ _ _ _ g1 h2 h3 h4.world hu⟩
      | cons v vs => rw [ho] at h; cases h
    cases x with
    | normal => exact fin h1
    | ret => exact fin h1
    | exit i => cases h1
  | yl b =>
    have h : callYl (comp P true) ag cl b args S k = some z := h
    obtain ⟨st, pe, t, ps, asg, c, n, hb, h⟩ := onLoop_some h
    obtain ⟨hst, h⟩ := ifB_some h
    have hst := beq_true hst
    intro r x hρ
    obtain ⟨l, hh, a1, a2, a3, a4, a5, a6, a7, a8⟩ := hw.loop hb hρ
    subst a4
    obtain ⟨hlen, t', h, hoff, htm, hsize⟩ := psK_some (ρ := ρ) (z := z) l.params.toList args us t.clean l.tmps _ hl (fun p hp => Nat.lt_of_lt_of_le (a5 p (by simpa using hp)) a8) (fun m => by rw [evTmp_clean]; exact a3 m) h
    refine ⟨_, _, _, _, run_yield hh hlen, roundIn_of_wpIn trivial ?_⟩
    have hdf : DfRel ρ t'.off [] := by rw [hoff]; exact .nil
    rw [a6]
    refine code_wp (N := l.tmps.size) (ro := some r) (rd := true) hm hN hcl hag (.inr rfl) a8 asg ρ S w t' { tmps := (l.params.toList.zip us).foldl (fun tm p => tm.setIfInBounds p.1 p.2) l.tmps, defers := [] } _ _ ⟨hw, htm, hdf, hsize⟩ h fun y t1 S1 ρ1 a1' w1 g1 g2 g3 g4 => ?_
    cases y with
    | ret => cases g1
    | exit i => cases g1
    | normal =>
    obtain ⟨st1, pe1, t9, ps1, asg1, c1, n1, hb1, g1⟩ := onLoop_some (show onLoop S1 b _ = some z from g1)
    obtain ⟨hst1, g1⟩ := ifB_some g1
    have hst1 := beq_true hst1
    have hρ1 := g2 _ _ hρ
    obtain ⟨l1, hh1, e1, e2, e3, e4, e5, e6, e7, e8⟩ := g4.world.loop hb1 hρ1
    have hput : WRel base ρ1 (putK S1 b (.loop 1 pe1 t9 ps1 asg1 c1 n1)) (w1.putObj r (.loop { l1 with state := .busy })) := g4.world.put ⟨_, hb1⟩ hρ1 (ORel.loop (x := x) (r := { l1 with state := .busy }) rfl e2 e3 e4 e5 e6 e7 e8)
    refine ⟨_, run_beginRound hh1 (e1.trans hst1), ?_⟩
    rw [a7]
    refine code_wp (N := l.tmps.size) (ro := some r) (rd := true) hm hN hcl hag (.inr rfl) a8 c ρ1 _ _ t1 a1' _ _ ⟨hput, g4.tmps, g4.defers, g4.size⟩ g1 fun y t'' S' ρ' a' w' h1 h2 h3 h4 => ?_
    obtain ⟨st', pe', t2, ps', asg', c', n', hb', h1⟩ := onLoop_some (show onLoop S' b _ = some z from h1)
    obtain ⟨hst', h1⟩ := ifB_some h1
    have hρ' := h2 _ _ hρ1
    obtain ⟨l', hh', b1, b2, b3, b4, b5, b6, b7, b8⟩ := h4.world.loop hb' hρ'
    have hk : Keep ρ ρ' S S' := g3.trans ((Keep.put hρ1).trans h3)
    have hle := Rho.le_trans g2 h2
    cases y with
    | normal =>
      refine ⟨_, _, run_endRound hh' none, ?_⟩
      refine hR _ _ ρ' _ _ h1 hle (hk.trans (.put hρ')) (h4.world.put ⟨_, hb'⟩ hρ' (ORel.loop (x := x) (r := { l' with state := .ready, pending := none }) rfl rfl b3 b4 b5 b6 b7 b8)) (.bool _)
    | ret =>
      refine ⟨_, _, run_endRound hh' (some .ret), ?_⟩
      refine hR _ _ ρ' _ _ h1 hle (hk.trans (.put hρ')) (h4.world.put ⟨_, hb'⟩ hρ' (ORel.loop (x := x) (r := { l' with state := .done, pending := some .ret }) rfl rfl b3 b4 b5 b6 b7 b8)) (.bool _)
    | exit i =>
      refine ⟨_, _, run_endRound hh' (some (.exit i)), ?_⟩
      refine hR _ _ ρ' _ _ h1 hle (hk.trans (.put hρ')) (h4.world.put ⟨_, hb'⟩ hρ' (ORel.loop (x := x) (r := { l' with state := .done, pending := some (.exit i) }) rfl rfl b3 b4 b5 b6 b7 b8)) (.bool _)

theorem both_ok {FT : PT AF} {tab : Opt} (hX : OptOK P tab) (hM : MemoOK P tab.memo) (hF : FTOk P FT) (hm : P.follows .mixedOrders = true) (hN : NamesOk P) : ∀ n, AgOK P (both FT (comp P true) tab n).1 n ∧ ClOK P (both FT (comp P true) tab n).2
  | 0 => ⟨fun _ _ _ _ _ _ _ _ _ _ _ _ _ _ _ _ _ h => (by cases h), fun _ _ _ _ _ _ _ _ _ _ _ _ h => (by cases h)⟩
  | n + 1 => by
    obtain ⟨h1, h2⟩ := both_ok hX hM hF hm hN n
    refine ⟨fun ro rd k N base b ρ S w t a kx z Q hro hn hr h hq => ?_, call_ok n hX hM hF hm hN h2 h1⟩
    exact loop_round hro h1 hn (code_wp hm hN h2 h1 hro hn b) hr h hq

/-! ### The table -/
theorem tabOf_get : ∀ (l : List Func) (n : Nat) (t : PT AF) (g : Nat) (af : AF), (tabOf P l n t).getK g = some af → t.getK g = some af ∨ ∃ i fn, g = n + i ∧ l[i]? = some fn ∧ compFn P fn = some af
  | [], n, t, g, af, h => .inl h
  | f :: l, n, t, g, af, h => by
    have h : (tabOf P l (n + 1) (Option.rec t (fun a => t.setK (some a) n) (compFn P f))).getK g = some af := h
    rcases tabOf_get l (n + 1) _ g af h with h1 | ⟨i, fn, h1, h2, h3⟩
    · cases hc : compFn P f with
      | none => rw [hc] at h1; exact .inl h1
      | some a =>
        rw [hc] at h1
        rcases PT.getK_setK _ _ _ h1 with ⟨e1, e2⟩ | ⟨_, e2⟩
        · exact .inr ⟨0, f, e1, rfl, by rw [hc]; exact e2⟩
        · exact .inl e2
    · exact .inr ⟨i + 1, fn, by omega, by simpa using h2, h3⟩
theorem tabOf_ok : FTOk P (tabOf P P.funcs.toList 0 .nil) := fun g af h => by
  rcases tabOf_get _ _ _ _ _ h with h1 | ⟨i, fn, h1, h2, h3⟩
  · cases h1
  · subst h1
    exact ⟨fn, by rw [Nat.zero_add, ← Array.getElem?_toList]; exact h2, h3⟩

noncomputable def start : AS := { heap := .nil, next := 0 }
theorem start_rel (w : World) : WRel w (fun _ => none) start w :=
  { low := fun _ _ => rfl, size := Nat.le_refl _, os := rfl, output := rfl, tape := rfl, dom := fun _ _ => rfl, rng := fun _ _ _ h => (by cases h), inj := fun _ _ _ _ _ _ _ h _ => (by cases h), obj := fun _ _ _ _ _ h => (by cases h) }
/-- What is asked of a run's end: this value. -/
noncomputable def pin (v0 : AV) : K := fun v _ => ifB (sameV v v0) (some (.bool true, none)) none
/-- What is asked of a run's end: true. -/
noncomputable def fin : K := fun v _ => onBool v fun b => ifB b (some (.bool true, none)) none
section
variable {tab : Opt} (hX : OptOK P tab) (hM : MemoOK P tab.memo) (hm : P.follows .mixedOrders = true) (hN : NamesOk P)
include hX hM hm hN
/-- **What our machine says of a call, the call does**: the arguments are such as denote what is handed in, in no block of ours (.junk: whatever it is). -/
theorem exec_args {g : FuncId} {n : Nat} {xs : List AV} {us : List Value} (hx : DenL (fun _ => none) xs us) (h : sndK (both (tabOf P P.funcs.toList 0 .nil) (comp P true) tab n) (.fn g) xs start fin = some (.bool true, none)) (w : World) :
    Calls P g us.toArray w fun e w' => (e = .returned (.bool true)) ∧ (∀ r, r < w.heap.size → w'.heap[r]? = w.heap[r]?) ∧ w.heap.size ≤ w'.heap.size ∧ w'.os = w.os ∧ w'.output = w.output ∧ w'.tape = w.tape :=
  callsIn_wide.1 ((both_ok hX hM tabOf_ok hm hN n).2 w _ _ w (.fn g) xs us _ _ _ (start_rel w) hx h fun v S' ρ' w' u h1 _ _ h4 h5 => by
    obtain ⟨b, hb, h1⟩ := onBool_some (show onBool v (fun b => ifB b (some ((.bool true : AV), none)) none) = some (.bool true, none) from h1)
    obtain ⟨hb', _⟩ := ifB_some h1
    rw [hb, hb'] at h5
    cases h5
    exact ⟨rfl, h4.low, h4.size, h4.os, h4.output, h4.tape⟩).1
/-- **What our machine says of a function without arguments, its run does.** -/
theorem exec {g : FuncId} {n : Nat} (h : sndK (both (tabOf P P.funcs.toList 0 .nil) (comp P true) tab n) (.fn g) [] start fin = some (.bool true, none)) (w : World) :
    Calls P g #[] w fun e w' => (e = .returned (.bool true)) ∧ (∀ r, r < w.heap.size → w'.heap[r]? = w.heap[r]?) ∧ w.heap.size ≤ w'.heap.size ∧ w'.os = w.os ∧ w'.output = w.output ∧ w'.tape = w.tape :=
  exec_args hX hM hm hN (us := []) .nil h w
/-- One more call whose answer is known. -/
theorem exec_memo {g : FuncId} {n : Nat} {xs : List AV} {v : AV} (hp : pureL (v :: xs) = true) (h : sndK (both (tabOf P P.funcs.toList 0 .nil) (comp P true) tab n) (.fn g) xs start (pin v) = some (.bool true, none)) : MemoOK P ((g, xs, v) :: tab.memo) := fun g' xs' v' hmem => by
  rcases List.mem_cons.1 hmem with hmem | hmem
  · cases hmem
    refine ⟨(pureL_cons hp).2, fun us hx => ?_⟩
    have hc := fun w => (both_ok hX hM tabOf_ok hm hN n).2 w _ _ w (.fn g) xs us _ _ (fun e w' => ∃ u, e = .returned u ∧ Den (fun _ => none) v u ∧ Grown w w') (start_rel w) hx h fun v1 S' ρ' w' u h1 _ _ h4 h5 => by
      obtain ⟨hs, _⟩ := ifB_some (show ifB (sameV v1 v) (some ((.bool true : AV), none)) none = some (.bool true, none) from h1)
      rw [sameV_eq _ _ hs] at h5
      exact ⟨u, rfl, h5.pure (pureL_cons hp).1, ⟨h4.low, h4.size, h4.os, h4.output, h4.tape⟩⟩
    exact ⟨(hc default).2, fun w => (hc w).1⟩
  · exact hM g' xs' v' hmem
end
theorem memo_nil : MemoOK P [] := fun _ _ _ h => by cases h
end Go.Proofs.YtpochibfjpanhaaGreat.Exe
