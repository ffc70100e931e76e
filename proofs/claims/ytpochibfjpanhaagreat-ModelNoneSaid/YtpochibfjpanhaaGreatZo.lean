/- A part of the machine that reckons a closed run, and of the proof that what it says the given program does. No conditions. -/
import Derived.Test.YtpochibfjpanhaaGreatYq
import Derived.Lib.ReflectliteSwap
import Derived.Laws.Externs
import Derived.Deep.MidRow
set_option linter.unusedVariables false
set_option linter.unusedSimpArgs false
namespace Go.Proofs.YtpochibfjpanhaaGreat.Exe
open Go Go.Extern Go.Extern.Rtype Go.Lib

/-! ### Functions without a body: what sort.Slice asks for -/
noncomputable def on3 (xs : List AV) (k : AV → AV → AV → R) : R := List.rec (motive := fun _ => R) none (fun a r _ => List.rec (motive := fun _ => R) none (fun b r _ => on1 r fun c => k a b c) r) xs
noncomputable def on4 (xs : List AV) (k : AV → AV → AV → AV → R) : R := List.rec (motive := fun _ => R) none (fun a r _ => on3 r fun b c d => k a b c d) xs
theorem on3_some {xs : List AV} {k : AV → AV → AV → R} {z : AV × Option AS} (h : on3 xs k = some z) : ∃ a b c, xs = [a, b, c] ∧ k a b c = some z := by
  match xs, h with
  | a :: b :: r, h =>
    obtain ⟨c, rfl, h⟩ := on1_some (show on1 r (fun c => k a b c) = some z from h)
    exact ⟨a, b, c, rfl, h⟩
theorem on4_some {xs : List AV} {k : AV → AV → AV → AV → R} {z : AV × Option AS} (h : on4 xs k = some z) : ∃ a b c d, xs = [a, b, c, d] ∧ k a b c d = some z := by
  match xs, h with
  | a :: r, h =>
    obtain ⟨b, c, d, rfl, h⟩ := on3_some (show on3 r (fun b c d => k a b c d) = some z from h)
    exact ⟨a, b, c, d, rfl, h⟩
/-- A slice's length. -/
noncomputable def lenS (v : AV) (k : Nat → R) : R := ifB (Nat.beq (nilNo v) 2) (k 0) (onSl v fun _ _ n _ _ => k n)
theorem nilNo_two {v : AV} (h : Nat.beq (nilNo v) 2 = true) : v = .snil := by
  cases v <;> first | rfl | cases h
theorem lenS_some {ρ : Rho} {v : AV} {u : Value} {k : Nat → R} {z : AV × Option AS} (d : Den ρ v u) (h : lenS v k = some z) : ∃ p n c, u = .slice p n c ∧ k n = some z ∧ isOne v = true := by
  rcases ifB_or (show ifB (Nat.beq (nilNo v) 2) (k 0) (onSl v fun _ _ n _ _ => k n) = some z from h) with ⟨h1, h2⟩ | ⟨_, h2⟩
  · rw [nilNo_two h1] at d ⊢
    cases d
    exact ⟨none, 0, 0, rfl, h2, rfl⟩
  · obtain ⟨b, o, n, c, op, hv, h2⟩ := onSl_some h2
    rw [hv] at d ⊢
    cases d
    exact ⟨_, _, _, rfl, h2, rfl⟩
noncomputable def elemT (P : Program) (t : TypeId) : Option TypeId := (P.info? t).bind fun i => match i.desc with | .slice e => some e | _ => none
theorem elemT_some {P : Program} {t e : TypeId} (h : elemT P t = some e) : ∃ i, P.info? t = some i ∧ i.desc = .slice e := by
  obtain ⟨i, hi, h⟩ := bind_some h
  refine ⟨i, hi, ?_⟩
  split at h
  · cases h; assumption
  · cases h
noncomputable def xValueOf (P : Program) : XF := fun xs S k => on1 xs fun v => onIfc v fun t u => onSome (elemT P t) fun _ => lenS u fun _ => newK S (.cells t 1 [u]) fun b S => k (.agg [.raw P.globals.size t, .ptr b 0, .int .u64 151]) S
noncomputable def xLen (P : Program) : XF := fun xs S k => on1 xs fun v => onAgg v fun cs => on3 cs fun h p f => onRaw h fun g t => onPtr p fun b o => onInt f fun kd n =>
  ifB (Nat.beq g P.globals.size) (ifB (Nat.beq o 0) (ifB (sameKind kd .u64) (ifB (eqK n 151) (onSome (elemT P t) fun _ => ifB (P.packed t) none (onCells S b fun _ _ cs => on1 cs fun c => lenS c fun n => k (.int .i64 (.ofNat n)) S)) none) none) none) none
/-- Which of Swapper's literals: of no element, of one, of more: 'sw': the slice's type, the element's, the literal. -/
noncomputable def findSw (t : TypeId) (sw : List (Nat × Nat × Nat)) : Option (Nat × Nat) := List.rec (motive := fun _ => Option (Nat × Nat)) none (fun e _ ih => ifB (Nat.beq e.1 t) (some e.2) ih) sw
noncomputable def xSwapper (P : Program) (f1 f2 : Nat) (sw : List (Nat × Nat × Nat)) : XF := fun xs S k => on1 xs fun v => onIfc v fun t u => onSome (findSw t sw) fun p => lenS u fun n =>
  ifB (Nat.beq n 0) (k (.fn f1 [] []) S) (ifB (Nat.beq n 1) (k (.fn f2 [] []) S) (k (.fn p.2 [] [u, .raw P.globals.size p.1]) S))
noncomputable def kindI (v : AV) (k : Nat → R) : R := onInt v fun kd n => ifB (sameKind kd .i64) (onNatI n k) none
noncomputable def xSwap (P : Program) : XF := fun xs S k => on4 xs fun vi vj vs vh => kindI vi fun i => kindI vj fun j => onSl vs fun b o n _ _ => onRaw vh fun g e =>
  ifB (Nat.beq g P.globals.size) (ifB (Nat.ble (Nat.succ i) n) (ifB (Nat.ble (Nat.succ j) n) (ifB (known P e)
    (kLoad (aggT P e) (sizeT P e) (.const (.ptr b (Nat.add o (Nat.mul i (sizeT P e))))) T.nil S fun x _ => kLoad (aggT P e) (sizeT P e) (.const (.ptr b (Nat.add o (Nat.mul j (sizeT P e))))) T.nil S fun y _ =>
      kStore (sizeT P e) (.const (.ptr b (Nat.add o (Nat.mul i (sizeT P e))))) (.const y) T.nil S fun _ S => kStore (sizeT P e) (.const (.ptr b (Nat.add o (Nat.mul j (sizeT P e))))) (.const x) T.nil S fun _ S => k (.tup []) S) none) none) none) none

section
variable {base w : World} {P : Program} {ρ : Rho} {S : AS} {c : K} {z : AV × Option AS} {k : K}
/-- What one function's meaning must show. -/
def XOK (P : Program) (g : Nat) (f : XF) : Prop := ∀ (base : World) (ρ : Rho) (S : AS) (w : World) (xs : List AV) (us : List Value) (k : K) (z : AV × Option AS), WRel base ρ S w → DenL ρ xs us → f xs S k = some z →
  ∃ v S' ρ' w' u, k v S' = some z ∧ ρ.le ρ' ∧ Keep ρ ρ' S S' ∧ WRel base ρ' S' w' ∧ Den ρ' v u ∧ (callFunc g us.toArray).run P w = .ok (.value u) w'
theorem ext_cons {g : Nat} {f : XF} {l : List (Nat × XF)} (h : XOK P g f) (hl : ExtOK P l) : ExtOK P ((g, f) :: l) := fun g' f' hm => by
  rcases List.mem_cons.1 hm with hm | hm
  · cases hm; exact h
  · exact hl g' f' hm
/-- The model stands in for it. -/
def Stands (P : Program) (g : Nat) (e : Array Value → Sem Value) : Prop := ∀ args w, (callFunc g args).run P w = ((e args).run P w).andThen fun v w' => .ok (.value v) w'
theorem one_cell {v : AV} {u : Value} (d : Den ρ v u) (h1 : isOne v = true) : Cells ρ [v] [u] := .one h1 d .nil
theorem xValueOf_ok {g : Nat} (hg : Stands P g fun args => ReflectliteValue.unpack (args.getD 0 (.tuple #[]))) : XOK P g (xValueOf P) := by
  intro base ρ S w xs us k z hw hl h
  obtain ⟨v, rfl, h⟩ := on1_some h
  cases hl with
  | cons d dn =>
    cases dn
    obtain ⟨t, u, rfl, h⟩ := onIfc_some h
    obtain ⟨e, he, h⟩ := onSome_some h
    obtain ⟨i, hi, hd⟩ := elemT_some he
    cases d with
    | @ifc _ _ v' d =>
      obtain ⟨p, n, cc, rfl, h, h1⟩ := lenS_some d h
      have h := newK_some h
      have hle := Rho.le_add (r := (w.heap.size, 0)) (hw.dom _ (Nat.le_refl _))
      have ho : ORel (ρ.add S.next (w.heap.size, 0)) 0 (.cells t 1 [u]) (.cells #[.slice p n cc] t) := by
        have := ORel.cells (ρ := ρ.add S.next (w.heap.size, 0)) (x := 0) (e := t) (z := 1) (tail := []) (fz := (0, 0)) (one_cell (d.mono hle) h1) (by simp) (.inl rfl)
        simpa using this
      refine ⟨_, _, _, _, _, h, hle, .new, hw.alloc _ _ 0 ho, .agg (.one rfl (.raw _ _) (.one rfl (.ptr (Rho.add_same _ _ _)) (.one rfl (.int _ _) .nil))), ?_⟩
      rw [hg]
      have := run_valueOf_slice (P := P) t e i hi hd p n cc w
      show ((ReflectliteValue.unpack (.iface t (.slice p n cc))).run P w).andThen _ = _
      rw [this]
      rfl
theorem xLen_ok {g : Nat} (hg : Stands P g (ReflectliteValue.method (ReflectliteValue.valueError "reflectlite.Value.Len" 0) ReflectliteValue.len)) : XOK P g (xLen P) := by
  intro base ρ S w xs us k z hw hl h
  obtain ⟨v, rfl, h⟩ := on1_some h
  cases hl with
  | cons d dn =>
    cases dn
    obtain ⟨cs, rfl, h⟩ := onAgg_some h
    obtain ⟨hh, p, f, rfl, h⟩ := on3_some h
    obtain ⟨g1, t, rfl, h⟩ := onRaw_some h
    obtain ⟨b, o, rfl, h⟩ := onPtr_some h
    obtain ⟨kd, n, rfl, h⟩ := onInt_some h
    obtain ⟨c1, h⟩ := ifB_some h
    obtain ⟨c2, h⟩ := ifB_some h
    obtain ⟨c3, h⟩ := ifB_some h
    obtain ⟨c4, h⟩ := ifB_some h
    obtain ⟨e, he, h⟩ := onSome_some h
    obtain ⟨i, hi, hd⟩ := elemT_some he
    rcases ifB_or h with ⟨_, h⟩ | ⟨hpk, h⟩
    · cases h
    obtain ⟨el, es, cs, hb, h⟩ := onCells_some h
    obtain ⟨cv, rfl, hq⟩ := on1_some h
    have c1 := beq_true c1
    have c2 := beq_true c2
    have c3 := kindNo_inj c3
    rw [eqK_eq, decide_eq_true_eq] at c4
    subst c1 c2 c3 c4
    cases d with
    | agg d =>
      cases d with
      | one _ d1 d =>
        cases d with
        | one _ d2 d =>
          cases d with
          | one _ d3 d =>
            cases d
            cases d1
            cases d3
            cases d2 with
            | @ptr _ _ r q hρ =>
              obtain ⟨us, tail, fz, hheap, hc, _, _⟩ := hw.cells hb hρ
              have hu : ∃ u, us = [u] ∧ Den ρ cv u ∧ isOne cv = true := by
                cases hc with
                | bytes hn => cases hq
                | one o1 dd hn => cases hn; exact ⟨_, rfl, dd, o1⟩
              obtain ⟨u, rfl, dd, _⟩ := hu
              obtain ⟨p, n, cc, rfl, hq, _⟩ := lenS_some dd hq
              refine ⟨_, _, ρ, w, _, hq, ρ.le_refl, .refl ρ S, hw, .int _ _, ?_⟩
              have hcell : w.cell? ⟨r, 0, none⟩ = some (.slice p n cc) := cell?_of hheap (by simp)
              rw [hg]
              have := run_valueLen_slice (P := P) t e i hi hd hpk ⟨r, 0, none⟩ p n cc w hcell
              show ((ReflectliteValue.method (ReflectliteValue.valueError "reflectlite.Value.Len" 0) ReflectliteValue.len #[.agg #[typeHandle P t, .pointer (some ⟨r, 0, none⟩), .int .u64 151]]).run P w).andThen _ = _
              rw [this]
              rfl
/-- What is said of Swapper's literals. -/
structure SwOK (P : Program) (f1 f2 : Nat) (sw : List (Nat × Nat × Nat)) : Prop where
  none : P.funcs.findIdx? (·.name == "internal/reflectlite" ++ ".Swapper$" ++ toString 1) = some f1
  one : P.funcs.findIdx? (·.name == "internal/reflectlite" ++ ".Swapper$" ++ toString 2) = some f2
  more : ∀ t e f, (t, e, f) ∈ sw → ∃ i ie ke, P.info? t = some i ∧ i.desc = .slice e ∧ P.info? e = some ie ∧ (∀ w, (kind e).run P w = .ok ke w) ∧ P.funcs.findIdx? (·.name == "internal/reflectlite" ++ ".Swapper$" ++ toString (swapperK 2 ie ke)) = some f
theorem findSw_some : ∀ {sw : List (Nat × Nat × Nat)} {t : TypeId} {p : Nat × Nat}, findSw t sw = some p → (t, p.1, p.2) ∈ sw
  | [], _, _, h => by cases h
  | (a, b) :: sw, t, p, h => by
    rcases ifB_or (show ifB (Nat.beq a t) (some b) (findSw t sw) = some p from h) with ⟨h1, h2⟩ | ⟨_, h2⟩
    · rw [← beq_true h1, ← Option.some.inj h2]
      exact List.mem_cons_self
    · exact List.mem_cons_of_mem _ (findSw_some h2)
theorem swapperK_two {n : Nat} (h : 2 ≤ n) (ie : TypeInfo) (ke : Nat) : swapperK n ie ke = swapperK 2 ie ke := by
  have h0 : ¬ n = 0 := by omega
  have h1 : ¬ n = 1 := by omega
  simp [swapperK, h0, h1]
theorem swapperK_more (ie : TypeInfo) (ke : Nat) : ¬ swapperK 2 ie ke ≤ 2 := by
  have c : ((2 : Nat) == 0) = false := rfl
  have d : ((2 : Nat) == 1) = false := rfl
  unfold swapperK
  simp only [c, d, Bool.false_eq_true, if_false]
  repeat' split
  all_goals omega
theorem xSwapper_ok {g f1 f2 : Nat} {sw : List (Nat × Nat × Nat)} (hs : SwOK P f1 f2 sw) (hg : Stands P g (ReflectliteSwapper.swapper "internal/reflectlite" (ReflectliteValue.valueError "Swapper"))) : XOK P g (xSwapper P f1 f2 sw) := by
  intro base ρ S w xs us k z hw hl h
  obtain ⟨v, rfl, h⟩ := on1_some h
  cases hl with
  | cons d dn =>
    cases dn
    obtain ⟨t, u, rfl, h⟩ := onIfc_some h
    obtain ⟨p, hp, h⟩ := onSome_some h
    obtain ⟨i, ie, ke, hi, hd, hie, hke, hf⟩ := hs.more _ _ _ (findSw_some hp)
    cases d with
    | @ifc _ _ v' d =>
      obtain ⟨pp, n, cc, rfl, h, h1⟩ := lenS_some d h
      have key : ∀ f, P.funcs.findIdx? (·.name == "internal/reflectlite" ++ ".Swapper$" ++ toString (swapperK n ie ke)) = some f → (callFunc g #[.iface t (.slice pp n cc)]).run P w = .ok (.value (.func (.func f) #[] (if swapperK n ie ke ≤ 2 then #[] else #[.slice pp n cc, typeHandle P p.1]))) w := fun f hf => by
        rw [hg, run_swapper_slice (P := P) t p.1 i ie hi hd hie ke hke pp n cc f hf w]
        rfl
      rcases ifB_or h with ⟨hn, h⟩ | ⟨hn, h⟩
      · have hn := beq_true hn
        subst hn
        have e0 : swapperK 0 ie ke = 1 := rfl
        have := key f1 (by rw [e0]; exact hs.none)
        rw [e0] at this
        exact ⟨_, _, ρ, w, _, h, ρ.le_refl, .refl ρ S, hw, .fn .nil .nil, this⟩
      rcases ifB_or h with ⟨hn1, h⟩ | ⟨hn1, h⟩
      · have hn1 := beq_true hn1
        subst hn1
        have e0 : swapperK 1 ie ke = 2 := rfl
        have := key f2 (by rw [e0]; exact hs.one)
        rw [e0] at this
        exact ⟨_, _, ρ, w, _, h, ρ.le_refl, .refl ρ S, hw, .fn .nil .nil, this⟩
      · have h2 : 2 ≤ n := by
          have a0 : ¬ n = 0 := fun e => by rw [e] at hn; simp at hn
          have a1 : ¬ n = 1 := fun e => by rw [e] at hn1; simp at hn1
          omega
        have := key p.2 (by rw [swapperK_two h2]; exact hf)
        rw [swapperK_two h2, if_neg (swapperK_more ie ke)] at this
        exact ⟨_, _, ρ, w, _, h, ρ.le_refl, .refl ρ S, hw, .fn .nil (.cons d (.cons (.raw _ _) .nil)), this⟩
/-- A variable read. -/
theorem loadVar_of {e : TypeId} {b off r x : Nat} (hk : known P e = true) (hρ : ρ b = some (r, x)) (hw : WRel base ρ S w) (h : kLoad (aggT P e) (sizeT P e) (.const (.ptr b off)) T.nil S c = some z) :
    ∃ v u, c v S = some z ∧ (loadVar e ⟨r, off, none⟩).run P w = .ok u w ∧ Den ρ v u := by
  obtain ⟨d, hd, hsz⟩ := known_some hk
  obtain ⟨b', off', hv, h⟩ := onPtr_some h
  cases hv
  obtain ⟨el, es, cs, hb, h⟩ := onCells_some h
  obtain ⟨v', hval, h⟩ := retO_some h
  obtain ⟨us, tail, fz, hh, hc, _, _⟩ := hw.cells hb hρ
  rcases valueK_some hc hval with ⟨ha, hlen, hden⟩ | ⟨ha, u, hu, hden, _⟩
  · obtain ⟨d', hd', hrow⟩ := aggT_true ha
    have hr := rangeAt_of hh off (sizeT P e)
    have e1 : ((us ++ tail).drop off).take (sizeT P e) = (us.drop off).take (sizeT P e) := by
      rw [List.drop_append_of_le_length (by omega), List.take_append_of_le_length (by rw [List.length_drop]; omega)]
    rw [e1] at hr
    have hl : ((us.drop off).take (sizeT P e)).length = sizeT P e := by rw [List.length_take, List.length_drop]; omega
    exact ⟨_, _, h, run_loadVar_mid (P := P) w r off e _ d' hr hd' hrow (by rw [hl]; exact hsz), hden⟩
  · have hcell : w.cell? ⟨r, off, none⟩ = some u := cell?_of hh (by rw [List.getElem?_append_left (by rcases Nat.lt_or_ge off us.length with h' | h'; exact h'; rw [List.getElem?_eq_none h'] at hu; cases hu)]; exact hu)
    exact ⟨_, u, h, by simp [loadVar, run_isAgg_false hd ha, load, Sem.run, hcell], hden⟩
/-- A variable written. -/
theorem storeVar_of {e : TypeId} {b off r x : Nat} {v : AV} {u : Value} (hk : known P e = true) (hρ : ρ b = some (r, x)) (hv : Den ρ v u) (hw : WRel base ρ S w) (h : kStore (sizeT P e) (.const (.ptr b off)) (.const v) T.nil S c = some z) :
    ∃ S' w', c (.tup []) S' = some z ∧ (storeVar e ⟨r, off, none⟩ u).run P w = .ok () w' ∧ Keep ρ ρ S S' ∧ WRel base ρ S' w' := by
  obtain ⟨d, hd, hn⟩ := known_some hk
  obtain ⟨b', off', hv', h⟩ := onPtr_some h
  cases hv'
  obtain ⟨el, es, cs, hb, h⟩ := onCells_some h
  obtain ⟨cs', hput, h⟩ := onSome_some h
  obtain ⟨us, tail, fz, hh, hc, htl, hfz⟩ := hw.cells hb hρ
  obtain ⟨hsz, hlen, hone, hcs⟩ := putValK_some hc hv hput
  have hll : u.cells.toList.length = sizeT P e := by rw [Array.length_toList]; exact hsz
  have hthere : w.there r off u.cells.size := there_of hh (by rw [List.length_append]; exact hfz.free) off _ (by rw [List.length_append, hsz]; omega)
  have hrun : (Instr.storeAt e (.pointer (some ⟨r, off, none⟩)) u).run P w = .ok () (w.setCells r off u.cells.toList) := by
    have hall : u.cells.all (·.oneCell') = true := by
      rw [Array.all_eq_true_iff_forall_mem]
      exact fun v hv => hone v (by simpa using hv)
    exact run_storeAt_mid (P := P) w r off e u.cells hthere (by rw [hsz]; exact hn) hall
  have hset := setCells_heap r el fz u.cells.toList off w (us ++ tail) hh (by rw [List.length_append, hll]; omega)
  have e1 : (us ++ tail).take off ++ u.cells.toList ++ (us ++ tail).drop (off + u.cells.toList.length) = us.take off ++ u.cells.toList ++ us.drop (off + sizeT P e) ++ tail := by
    rw [hll, List.take_append_of_le_length (by omega), List.drop_append_of_le_length (by omega)]
    simp
  rw [e1] at hset
  have hlen2 : (us.take off ++ u.cells.toList ++ us.drop (off + sizeT P e)).length = us.length := by simp [hll]; omega
  have hrun' : (storeVar e ⟨r, off, none⟩ u).run P w = .ok () (w.setCells r off u.cells.toList) := by
    have e0 : (Instr.storeAt e (.pointer (some ⟨r, off, none⟩)) u).run P w = (storeVar e ⟨r, off, none⟩ u).run P w := by
      simp only [Instr.storeAt, Instr.sureAddr, Sem.run_bind, Sem.run_pure, Result.andThen_ok]
    rw [← e0]
    exact hrun
  refine ⟨_, _, h, hrun', .put hρ, ?_⟩
  rw [hset]
  exact hw.put ⟨_, hb⟩ hρ (.cells hcs htl (by rw [hlen2]; exact hfz))
theorem kindI_some {v : AV} {k : Nat → R} {z : AV × Option AS} (h : kindI v k = some z) : ∃ n : Nat, v = .int .i64 (.ofNat n) ∧ k n = some z := by
  obtain ⟨kd, n, rfl, h⟩ := onInt_some h
  obtain ⟨h1, h⟩ := ifB_some h
  obtain ⟨m, rfl, h⟩ := onNatI_some h
  rw [kindNo_inj h1]
  exact ⟨m, rfl, h⟩
theorem xSwap_ok {g : Nat} {gs : Bool} (hg : Stands P g (ReflectliteSwapper.swap gs)) : XOK P g (xSwap P) := by
  intro base ρ S w xs us k z hw hl h
  obtain ⟨vi, vj, vs, vh, rfl, h⟩ := on4_some h
  obtain ⟨i, rfl, h⟩ := kindI_some h
  obtain ⟨j, rfl, h⟩ := kindI_some h
  obtain ⟨b, o, n, cp, op, rfl, h⟩ := onSl_some h
  obtain ⟨g1, e, rfl, h⟩ := onRaw_some h
  obtain ⟨c1, h⟩ := ifB_some h
  obtain ⟨c2, h⟩ := ifB_some h
  obtain ⟨c3, h⟩ := ifB_some h
  obtain ⟨hk, hq0⟩ := ifB_some h
  have c1 := beq_true c1
  subst c1
  have c2 := ble_true c2
  have c3 := ble_true c3
  cases hl with
  | cons d1 hl =>
    cases hl with
    | cons d2 hl =>
      cases hl with
      | cons d3 hl =>
        cases hl with
        | cons d4 hl =>
          cases hl
          cases d1
          cases d2
          cases d4
          cases d3 with
          | @sl _ _ _ _ r x _ hρ =>
            obtain ⟨x1, u1, hq1, r1, dx⟩ := loadVar_of hk hρ hw hq0
            obtain ⟨y1, u2, hq2, r2, dy⟩ := loadVar_of hk hρ hw hq1
            obtain ⟨S1, w1, hq3, r3, k1, hw1⟩ := storeVar_of hk hρ dy hw hq2
            obtain ⟨S2, w2, hq4, r4, k2, hw2⟩ := storeVar_of hk hρ dx hw1 hq3
            refine ⟨_, S2, ρ, w2, _, hq4, ρ.le_refl, k1.trans k2, hw2, .tup .nil, ?_⟩
            obtain ⟨_, _, hs⟩ := known_some hk
            have hie : ∃ ie, P.info? e = some ie ∧ ie.size = sizeT P e := by
              cases hi : P.info? e with
              | none => rw [hi] at hs; cases hs
              | some ie => rw [hi] at hs; exact ⟨ie, rfl, Option.some.inj hs⟩
            obtain ⟨ie, hie, hsz⟩ := hie
            have i0 : ¬ ((i : Int) < 0) := by omega
            have i1 : ¬ ((i : Int) ≥ n) := by omega
            have j0 : ¬ ((j : Int) < 0) := by omega
            have j1 : ¬ ((j : Int) ≥ n) := by omega
            have r1' : (loadVar e ⟨r, o + i * sizeT P e, none⟩).run P w = .ok u1 w := r1
            have r2' : (loadVar e ⟨r, o + j * sizeT P e, none⟩).run P w = .ok u2 w := r2
            have r3' : (storeVar e ⟨r, o + i * sizeT P e, none⟩ u2).run P w = .ok () w1 := r3
            have r4' : (storeVar e ⟨r, o + j * sizeT P e, none⟩ u1).run P w1 = .ok () w2 := r4
            rw [hg]
            have hrun : ∀ cc, (ReflectliteSwapper.swap gs #[.int .i64 i, .int .i64 j, .slice (some ⟨r, o, none⟩) n cc, typeHandle P e]).run P w = .ok (.tuple #[]) w2 := fun cc => by
              rw [rl_swap]
              cases gs <;> simp [i0, i1, j0, j1, ofHandle, handleType, typeHandle, ReflectliteSwapper.exchange, sizeOf, rl_info e ie hie, hsz, Addr.add_lit, r1', r2', r3', r4', Result.andThen]
            have := hrun (if op then cp + x else cp)
            show ((ReflectliteSwapper.swap gs #[.int .i64 (Int.ofNat i), .int .i64 (Int.ofNat j), .slice (some ⟨r, o, none⟩) n (if op then cp + x else cp), typeHandle P e]).run P w).andThen _ = _
            rw [show (ReflectliteSwapper.swap gs #[.int .i64 (Int.ofNat i), .int .i64 (Int.ofNat j), .slice (some ⟨r, o, none⟩) n (if op then cp + x else cp), typeHandle P e]).run P w = .ok (.tuple #[]) w2 from this]
            rfl
end
end Go.Proofs.YtpochibfjpanhaaGreat.Exe
