/- A part of the machine that reckons a closed run, and of the proof that what it says the given program does. No conditions. -/
import Derived.Test.YtpllompnfhpfmaaGreatDoorMi
import Derived.Lib.ReflectliteSwap
import Derived.Laws.Externs
import Derived.Deep.MidRow
import Derived.Lib.Bytealg
import Derived.Lib.ItoaNum
import Derived.Lib.Join
import Derived.Below
set_option linter.unusedVariables false
set_option linter.unusedSimpArgs false
namespace Go.Proofs.YtpllompnfhpfmaaGreatDoor.Exe
open Go Go.Extern Go.Extern.Rtype Go.Lib

/-! ### Functions without a body: what sort.Slice asks for -/
noncomputable def on3 (xs : List AV) (k : AV → AV → AV → R) : R := List.rec (motive := fun _ => R) none (fun a r _ => List.rec (motive := fun _ => R) none (fun b r _ => on1 r fun c => k a b c) r) xs
noncomputable def on4 (xs : List AV) (k : AV → AV → AV → AV → R) : R := List.rec (motive := fun _ => R) none (fun a r _ => on3 r fun b c d => k a b c d) xs
theorem on3_some {xs : List AV} {k : AV → AV → AV → R} {z : AV × Option AS} (h : on3 xs k = some z) : ∃ a b c, xs = [a, b, c] ∧ k a b c = some z := by
  match xs, h with
  | a :: b :: r, h =>
    obtain ⟨c, rfl, h⟩ := on1_some (show on1 r (fun c => k a b c) = some z from h)
    exact ⟨a, b, c, rfl, h⟩
theorem on4_some {xs : List AV} {k : AV → AV → AV → AV → R} {z : AV × Option AS} (h : on4 xs k = some z) : ∃ a b c d, xs = [a, b, c, d] ∧ k a b c d = some z := by
  match xs, h with
  | a :: r, h =>
    obtain ⟨b, c, d, rfl, h⟩ := on3_some (show on3 r (fun b c d => k a b c d) = some z from h)
    exact ⟨a, b, c, d, rfl, h⟩
/-- A slice's length. -/
noncomputable def lenS (v : AV) (k : Nat → R) : R := ifB (Nat.beq (nilNo v) 2) (k 0) (onSl v fun _ _ n _ _ => k n)
theorem nilNo_two {v : AV} (h : Nat.beq (nilNo v) 2 = true) : v = .snil := by
  cases v <;> first | rfl | cases h
theorem lenS_some {ρ : Rho} {v : AV} {u : Value} {k : Nat → R} {z : AV × Option AS} (d : Den ρ v u) (h : lenS v k = some z) : ∃ p n c, u = .slice p n c ∧ k n = some z ∧ isOne v = true := by
  rcases ifB_or (show ifB (Nat.beq (nilNo v) 2) (k 0) (onSl v fun _ _ n _ _ => k n) = some z from h) with ⟨h1, h2⟩ | ⟨_, h2⟩
  · rw [nilNo_two h1] at d ⊢
    cases d
    exact ⟨none, 0, 0, rfl, h2, rfl⟩
  · obtain ⟨b, o, n, c, op, hv, h2⟩ := onSl_some h2
    rw [hv] at d ⊢
    cases d <;> exact ⟨_, _, _, rfl, h2, rfl⟩
noncomputable def elemT (P : Program) (t : TypeId) : Option TypeId := (P.info? t).bind fun i => match i.desc with | .slice e => some e | _ => none
theorem elemT_some {P : Program} {t e : TypeId} (h : elemT P t = some e) : ∃ i, P.info? t = some i ∧ i.desc = .slice e := by
  obtain ⟨i, hi, h⟩ := bind_some h
  refine ⟨i, hi, ?_⟩
  split at h
  · cases h; assumption
  · cases h
noncomputable def xValueOf (P : Program) : XF := fun xs S k => on1 xs fun v => onIfc v fun t u => onSome (elemT P t) fun _ => lenS u fun _ => newK S (.cells t 1 [u]) fun b S => k (.agg [.raw P.globals.size t, .ptr b 0, .int .u64 151]) S
noncomputable def xLen (P : Program) : XF := fun xs S k => on1 xs fun v => onAgg v fun cs => on3 cs fun h p f => onRaw h fun g t => onPtr p fun b o => onInt f fun kd n =>
  ifB (Nat.beq g P.globals.size) (ifB (Nat.beq o 0) (ifB (sameKind kd .u64) (ifB (eqK n 151) (onSome (elemT P t) fun _ => ifB (P.packed t) none (onCells S b fun _ _ cs => on1 cs fun c => lenS c fun n => k (.int .i64 (.ofNat n)) S)) none) none) none) none
/-- Which of Swapper's literals: of no element, of one, of more: 'sw': the slice's type, the element's, the literal. -/
noncomputable def findSw (t : TypeId) (sw : List (Nat × Nat × Nat)) : Option (Nat × Nat) := List.rec (motive := fun _ => Option (Nat × Nat)) none (fun e _ ih => ifB (Nat.beq e.1 t) (some e.2) ih) sw
noncomputable def xSwapper (P : Program) (f1 f2 : Nat) (sw : List (Nat × Nat × Nat)) : XF := fun xs S k => on1 xs fun v => onIfc v fun t u => onSome (findSw t sw) fun p => lenS u fun n =>
  ifB (Nat.beq n 0) (k (.fn f1 [] []) S) (ifB (Nat.beq n 1) (k (.fn f2 [] []) S) (k (.fn p.2 [] [u, .raw P.globals.size p.1]) S))
noncomputable def kindI (v : AV) (k : Nat → R) : R := onInt v fun kd n => ifB (sameKind kd .i64) (onNatI n k) none
noncomputable def xSwap (P : Program) : XF := fun xs S k => on4 xs fun vi vj vs vh => kindI vi fun i => kindI vj fun j => onSl vs fun b o n _ _ => onRaw vh fun g e =>
  ifB (Nat.beq g P.globals.size) (ifB (Nat.ble (Nat.succ i) n) (ifB (Nat.ble (Nat.succ j) n) (ifB (known P e)
    (kLoad (aggT P e) (sizeT P e) (.const (.ptr b (Nat.add o (Nat.mul i (sizeT P e))))) T.nil S fun x _ => kLoad (aggT P e) (sizeT P e) (.const (.ptr b (Nat.add o (Nat.mul j (sizeT P e))))) T.nil S fun y _ =>
      kStore (sizeT P e) (.const (.ptr b (Nat.add o (Nat.mul i (sizeT P e))))) (.const y) T.nil S fun _ S => kStore (sizeT P e) (.const (.ptr b (Nat.add o (Nat.mul j (sizeT P e))))) (.const x) T.nil S fun _ S => k (.tup []) S) none) none) none) none

section
variable {Lg : Laid} {base : Base Lg} {w : World} {P : Program} {ρ : Rho} {S : AS} {c : K} {z : AV × Option AS} {k : K}
/-- What one function's meaning must show. -/
def XOK (Lg : Laid) (P : Program) (g : Nat) (f : XF) : Prop := ∀ (base : Base Lg) (ρ : Rho) (S : AS) (w : World) (xs : List AV) (us : List Value) (k : K) (z : AV × Option AS), WRel base ρ S w → DenL ρ xs us → f xs S k = some z →
  ∃ v S' ρ' w' u, k v S' = some z ∧ ρ.le ρ' ∧ Keep ρ ρ' S S' ∧ WRel base ρ' S' w' ∧ Den ρ' v u ∧ (callFunc g us.toArray).run P w = .ok (.value u) w'
theorem ext_cons {g : Nat} {f : XF} {l : List (Nat × XF)} (h : XOK Lg P g f) (hl : ExtOK Lg P l) : ExtOK Lg P ((g, f) :: l) := fun g' f' hm => by
  rcases List.mem_cons.1 hm with hm | hm
  · cases hm; exact h
  · exact hl g' f' hm
/-- The model stands in for it. -/
def Stands (P : Program) (g : Nat) (e : Array Value → Sem Value) : Prop := ∀ args w, (callFunc g args).run P w = ((e args).run P w).andThen fun v w' => .ok (.value v) w'
theorem one_cell {v : AV} {u : Value} (d : Den ρ v u) (h1 : isOne v = true) : Cells ρ [v] [u] := .one h1 d .nil
theorem xValueOf_ok {g : Nat} (hg : Stands P g fun args => ReflectliteValue.unpack (args.getD 0 (.tuple #[]))) : XOK Lg P g (xValueOf P) := by
  intro base ρ S w xs us k z hw hl h
  obtain ⟨v, rfl, h⟩ := on1_some h
  cases hl with
  | cons d dn =>
    cases dn
    obtain ⟨t, u, rfl, h⟩ := onIfc_some h
    obtain ⟨e, he, h⟩ := onSome_some h
    obtain ⟨i, hi, hd⟩ := elemT_some he
    cases d with
    | @ifc _ _ v' d =>
      obtain ⟨p, n, cc, rfl, h, h1⟩ := lenS_some d h
      have h := newK_some h
      have hle := Rho.le_add (r := (w.heap.size, 0)) (hw.dom _ (Nat.le_refl _))
      have ho : ORel (ρ.add S.next (w.heap.size, 0)) 0 (.cells t 1 [u]) (.cells #[.slice p n cc] t) := by
        have := ORel.cells (ρ := ρ.add S.next (w.heap.size, 0)) (x := 0) (e := t) (z := 1) (tail := []) (fz := (0, 0)) (one_cell (d.mono hle) h1) (by simp) (.inl rfl)
        simpa using this
      refine ⟨_, _, _, _, _, h, hle, .new, hw.alloc _ _ 0 ho, .agg (.one rfl (.raw _ _) (.one rfl (.ptr (Rho.add_same _ _ _)) (.one rfl (.int _ _) .nil))), ?_⟩
      rw [hg]
      have := run_valueOf_slice (P := P) t e i hi hd p n cc w
      show ((ReflectliteValue.unpack (.iface t (.slice p n cc))).run P w).andThen _ = _
      rw [this]
      rfl
theorem xLen_ok {g : Nat} (hg : Stands P g (ReflectliteValue.method (ReflectliteValue.valueError "reflectlite.Value.Len" 0) ReflectliteValue.len)) : XOK Lg P g (xLen P) := by
  intro base ρ S w xs us k z hw hl h
  obtain ⟨v, rfl, h⟩ := on1_some h
  cases hl with
  | cons d dn =>
    cases dn
    obtain ⟨cs, rfl, h⟩ := onAgg_some h
    obtain ⟨hh, p, f, rfl, h⟩ := on3_some h
    obtain ⟨g1, t, rfl, h⟩ := onRaw_some h
    obtain ⟨b, o, rfl, h⟩ := onPtr_some h
    obtain ⟨kd, n, rfl, h⟩ := onInt_some h
    obtain ⟨c1, h⟩ := ifB_some h
    obtain ⟨c2, h⟩ := ifB_some h
    obtain ⟨c3, h⟩ := ifB_some h
    obtain ⟨c4, h⟩ := ifB_some h
    obtain ⟨e, he, h⟩ := onSome_some h
    obtain ⟨i, hi, hd⟩ := elemT_some he
    rcases ifB_or h with ⟨_, h⟩ | ⟨hpk, h⟩
    · cases h
    obtain ⟨el, es, cs, hb, h⟩ := onCells_some h
    obtain ⟨cv, rfl, hq⟩ := on1_some h
    have c1 := beq_true c1
    have c2 := beq_true c2
    have c3 := kindNo_inj c3
    rw [eqK_eq, decide_eq_true_eq] at c4
    subst c1 c2 c3 c4
    cases d with
    | agg d =>
      cases d with
      | one _ d1 d =>
        cases d with
        | one _ d2 d =>
          cases d with
          | one _ d3 d =>
            cases d
            cases d1
            cases d3
            cases d2 with
            | @ptr _ _ r q hρ =>
              obtain ⟨us, tail, fz, hheap, hc, _, _⟩ := hw.cells hb hρ
              have hu : ∃ u, us = [u] ∧ Den ρ cv u ∧ isOne cv = true := by
                cases hc with
                | bytes hn => cases hq
                | one o1 dd hn => cases hn; exact ⟨_, rfl, dd, o1⟩
              obtain ⟨u, rfl, dd, _⟩ := hu
              obtain ⟨p, n, cc, rfl, hq, _⟩ := lenS_some dd hq
              refine ⟨_, _, ρ, w, _, hq, ρ.le_refl, .refl ρ S, hw, .int _ _, ?_⟩
              have hcell : w.cell? ⟨r, 0, none⟩ = some (.slice p n cc) := cell?_of hheap (by simp)
              rw [hg]
              have := run_valueLen_slice (P := P) t e i hi hd hpk ⟨r, 0, none⟩ p n cc w hcell
              show ((ReflectliteValue.method (ReflectliteValue.valueError "reflectlite.Value.Len" 0) ReflectliteValue.len #[.agg #[typeHandle P t, .pointer (some ⟨r, 0, none⟩), .int .u64 151]]).run P w).andThen _ = _
              rw [this]
              rfl
/-- What is said of Swapper's literals. -/
structure SwOK (P : Program) (f1 f2 : Nat) (sw : List (Nat × Nat × Nat)) : Prop where
  none : P.funcs.findIdx? (·.name == "internal/reflectlite" ++ ".Swapper$" ++ toString 1) = some f1
  one : P.funcs.findIdx? (·.name == "internal/reflectlite" ++ ".Swapper$" ++ toString 2) = some f2
  more : ∀ t e f, (t, e, f) ∈ sw → ∃ i ie ke, P.info? t = some i ∧ i.desc = .slice e ∧ P.info? e = some ie ∧ (∀ w, (kind e).run P w = .ok ke w) ∧ P.funcs.findIdx? (·.name == "internal/reflectlite" ++ ".Swapper$" ++ toString (swapperK 2 ie ke)) = some f
theorem findSw_some : ∀ {sw : List (Nat × Nat × Nat)} {t : TypeId} {p : Nat × Nat}, findSw t sw = some p → (t, p.1, p.2) ∈ sw
  | [], _, _, h => by cases h
  | (a, b) :: sw, t, p, h => by
    rcases ifB_or (show ifB (Nat.beq a t) (some b) (findSw t sw) = some p from h) with ⟨h1, h2⟩ | ⟨_, h2⟩
    · rw [← beq_true h1, ← Option.some.inj h2]
      exact List.mem_cons_self
    · exact List.mem_cons_of_mem _ (findSw_some h2)
theorem swapperK_two {n : Nat} (h : 2 ≤ n) (ie : TypeInfo) (ke : Nat) : swapperK n ie ke = swapperK 2 ie ke := by
  have h0 : ¬ n = 0 := by omega
  have h1 : ¬ n = 1 := by omega
  simp [swapperK, h0, h1]
theorem swapperK_more (ie : TypeInfo) (ke : Nat) : ¬ swapperK 2 ie ke ≤ 2 := by
  have c : ((2 : Nat) == 0) = false := rfl
  have d : ((2 : Nat) == 1) = false := rfl
  unfold swapperK
  simp only [c, d, Bool.false_eq_true, if_false]
  repeat' split
  all_goals omega
theorem xSwapper_ok {g f1 f2 : Nat} {sw : List (Nat × Nat × Nat)} (hs : SwOK P f1 f2 sw) (hg : Stands P g (ReflectliteSwapper.swapper "internal/reflectlite" (ReflectliteValue.valueError "Swapper"))) : XOK Lg P g (xSwapper P f1 f2 sw) := by
  intro base ρ S w xs us k z hw hl h
  obtain ⟨v, rfl, h⟩ := on1_some h
  cases hl with
  | cons d dn =>
    cases dn
    obtain ⟨t, u, rfl, h⟩ := onIfc_some h
    obtain ⟨p, hp, h⟩ := onSome_some h
    obtain ⟨i, ie, ke, hi, hd, hie, hke, hf⟩ := hs.more _ _ _ (findSw_some hp)
    cases d with
    | @ifc _ _ v' d =>
      obtain ⟨pp, n, cc, rfl, h, h1⟩ := lenS_some d h
      have key : ∀ f, P.funcs.findIdx? (·.name == "internal/reflectlite" ++ ".Swapper$" ++ toString (swapperK n ie ke)) = some f → (callFunc g #[.iface t (.slice pp n cc)]).run P w = .ok (.value (.func (.func f) #[] (if swapperK n ie ke ≤ 2 then #[] else #[.slice pp n cc, typeHandle P p.1]))) w := fun f hf => by
        rw [hg, run_swapper_slice (P := P) t p.1 i ie hi hd hie ke hke pp n cc f hf w]
        rfl
      rcases ifB_or h with ⟨hn, h⟩ | ⟨hn, h⟩
      · have hn := beq_true hn
        subst hn
        have e0 : swapperK 0 ie ke = 1 := rfl
        have := key f1 (by rw [e0]; exact hs.none)
        rw [e0] at this
        exact ⟨_, _, ρ, w, _, h, ρ.le_refl, .refl ρ S, hw, .fn .nil .nil, this⟩
      rcases ifB_or h with ⟨hn1, h⟩ | ⟨hn1, h⟩
      · have hn1 := beq_true hn1
        subst hn1
        have e0 : swapperK 1 ie ke = 2 := rfl
        have := key f2 (by rw [e0]; exact hs.one)
        rw [e0] at this
        exact ⟨_, _, ρ, w, _, h, ρ.le_refl, .refl ρ S, hw, .fn .nil .nil, this⟩
      · have h2 : 2 ≤ n := by
          have a0 : ¬ n = 0 := fun e => by rw [e] at hn; simp at hn
          have a1 : ¬ n = 1 := fun e => by rw [e] at hn1; simp at hn1
          omega
        have := key p.2 (by rw [swapperK_two h2]; exact hf)
        rw [swapperK_two h2, if_neg (swapperK_more ie ke)] at this
        exact ⟨_, _, ρ, w, _, h, ρ.le_refl, .refl ρ S, hw, .fn .nil (.cons d (.cons (.raw _ _) .nil)), this⟩
/-- A variable read. -/
theorem loadVar_of {e : TypeId} {b off r x : Nat} (hk : known P e = true) (hρ : ρ b = some (r, x)) (hw : WRel base ρ S w) (h : kLoad (aggT P e) (sizeT P e) (.const (.ptr b off)) T.nil S c = some z) :
    ∃ v u, c v S = some z ∧ (loadVar e ⟨r, off, none⟩).run P w = .ok u w ∧ Den ρ v u := by
  obtain ⟨d, hd, hsz⟩ := known_some hk
  obtain ⟨b', off', hv, h⟩ := onPtr_some h
  cases hv
  obtain ⟨el, es, cs, hb, h⟩ := onCells_some h
  obtain ⟨v', hval, h⟩ := retO_some h
  obtain ⟨us, tail, fz, hh, hc, _, _⟩ := hw.cells hb hρ
  rcases valueK_some hc hval with ⟨ha, hlen, hden⟩ | ⟨ha, u, hu, hden, _⟩
  · obtain ⟨d', hd', hrow⟩ := aggT_true ha
    have hr := rangeAt_of hh off (sizeT P e)
    have e1 : ((us ++ tail).drop off).take (sizeT P e) = (us.drop off).take (sizeT P e) := by
      rw [List.drop_append_of_le_length (by omega), List.take_append_of_le_length (by rw [List.length_drop]; omega)]
    rw [e1] at hr
    have hl : ((us.drop off).take (sizeT P e)).length = sizeT P e := by rw [List.length_take, List.length_drop]; omega
    exact ⟨_, _, h, run_loadVar_mid (P := P) w r off e _ d' hr hd' hrow (by rw [hl]; exact hsz), hden⟩
  · have hcell : w.cell? ⟨r, off, none⟩ = some u := cell?_of hh (by rw [List.getElem?_append_left (by rcases Nat.lt_or_ge off us.length with h' | h'; exact h'; rw [List.getElem?_eq_none h'] at hu; cases hu)]; exact hu)
    exact ⟨_, u, h, by simp [loadVar, run_isAgg_false hd ha, load, Sem.run, hcell], hden⟩
/-- A variable written. -/
theorem storeVar_of {e : TypeId} {b off r x : Nat} {v : AV} {u : Value} (hk : known P e = true) (hρ : ρ b = some (r, x)) (hv : Den ρ v u) (hw : WRel base ρ S w) (h : kStore (sizeT P e) (.const (.ptr b off)) (.const v) T.nil S c = some z) :
    ∃ S' w', c (.tup []) S' = some z ∧ (storeVar e ⟨r, off, none⟩ u).run P w = .ok () w' ∧ Keep ρ ρ S S' ∧ WRel base ρ S' w' := by
  obtain ⟨d, hd, hn⟩ := known_some hk
  obtain ⟨b', off', hv', h⟩ := onPtr_some h
  cases hv'
  obtain ⟨el, es, cs, hb, h⟩ := onCells_some h
  obtain ⟨cs', hput, h⟩ := onSome_some h
  obtain ⟨us, tail, fz, hh, hc, htl, hfz⟩ := hw.cells hb hρ
  obtain ⟨hsz, hlen, hone, hcs⟩ := putValK_some hc hv hput
  have hll : u.cells.toList.length = sizeT P e := by rw [Array.length_toList]; exact hsz
  have hthere : w.there r off u.cells.size := there_of hh (by rw [List.length_append]; exact hfz.free) off _ (by rw [List.length_append, hsz]; omega)
  have hrun : (Instr.storeAt e (.pointer (some ⟨r, off, none⟩)) u).run P w = .ok () (w.setCells r off u.cells.toList) := by
    have hall : u.cells.all (·.oneCell') = true := by
      rw [Array.all_eq_true_iff_forall_mem]
      exact fun v hv => hone v (by simpa using hv)
    exact run_storeAt_mid (P := P) w r off e u.cells hthere (by rw [hsz]; exact hn) hall
  have hset := setCells_heap r el fz u.cells.toList off w (us ++ tail) hh (by rw [List.length_append, hll]; omega)
  have e1 : (us ++ tail).take off ++ u.cells.toList ++ (us ++ tail).drop (off + u.cells.toList.length) = us.take off ++ u.cells.toList ++ us.drop (off + sizeT P e) ++ tail := by
    rw [hll, List.take_append_of_le_length (by omega), List.drop_append_of_le_length (by omega)]
    simp
  rw [e1] at hset
  have hlen2 : (us.take off ++ u.cells.toList ++ us.drop (off + sizeT P e)).length = us.length := by simp [hll]; omega
  have hrun' : (storeVar e ⟨r, off, none⟩ u).run P w = .ok () (w.setCells r off u.cells.toList) := by
    have e0 : (Instr.storeAt e (.pointer (some ⟨r, off, none⟩)) u).run P w = (storeVar e ⟨r, off, none⟩ u).run P w := by
      simp only [Instr.storeAt, Instr.sureAddr, Sem.run_bind, Sem.run_pure, Result.andThen_ok]
    rw [← e0]
    exact hrun
  refine ⟨_, _, h, hrun', .put hρ, ?_⟩
  rw [hset]
  exact hw.put ⟨_, hb⟩ hρ (.cells hcs htl (by rw [hlen2]; exact hfz))
theorem kindI_some {v : AV} {k : Nat → R} {z : AV × Option AS} (h : kindI v k = some z) : ∃ n : Nat, v = .int .i64 (.ofNat n) ∧ k n = some z := by
  obtain ⟨kd, n, rfl, h⟩ := onInt_some h
  obtain ⟨h1, h⟩ := ifB_some h
  obtain ⟨m, rfl, h⟩ := onNatI_some h
  rw [kindNo_inj h1]
  exact ⟨m, rfl, h⟩
theorem xSwap_ok {g : Nat} {gs : Bool} (hg : Stands P g (ReflectliteSwapper.swap gs)) : XOK Lg P g (xSwap P) := by
  intro base ρ S w xs us k z hw hl h
  obtain ⟨vi, vj, vs, vh, rfl, h⟩ := on4_some h
  obtain ⟨i, rfl, h⟩ := kindI_some h
  obtain ⟨j, rfl, h⟩ := kindI_some h
  obtain ⟨b, o, n, cp, op, rfl, h⟩ := onSl_some h
  obtain ⟨g1, e, rfl, h⟩ := onRaw_some h
  obtain ⟨c1, h⟩ := ifB_some h
  obtain ⟨c2, h⟩ := ifB_some h
  obtain ⟨c3, h⟩ := ifB_some h
  obtain ⟨hk, hq0⟩ := ifB_some h
  have c1 := beq_true c1
  subst c1
  have c2 := ble_true c2
  have c3 := ble_true c3
  cases hl with
  | cons d1 hl =>
    cases hl with
    | cons d2 hl =>
      cases hl with
      | cons d3 hl =>
        cases hl with
        | cons d4 hl =>
          cases hl
          cases d1
          cases d2
          cases d4
          cases d3 with
          | sl0 => omega
          | @sl _ _ _ _ r x _ hρ =>
            obtain ⟨x1, u1, hq1, r1, dx⟩ := loadVar_of hk hρ hw hq0
            obtain ⟨y1, u2, hq2, r2, dy⟩ := loadVar_of hk hρ hw hq1
            obtain ⟨S1, w1, hq3, r3, k1, hw1⟩ := storeVar_of hk hρ dy hw hq2
            obtain ⟨S2, w2, hq4, r4, k2, hw2⟩ := storeVar_of hk hρ dx hw1 hq3
            refine ⟨_, S2, ρ, w2, _, hq4, ρ.le_refl, k1.trans k2, hw2, .tup .nil, ?_⟩
            obtain ⟨_, _, hs⟩ := known_some hk
            have hie : ∃ ie, P.info? e = some ie ∧ ie.size = sizeT P e := by
              cases hi : P.info? e with
              | none => rw [hi] at hs; cases hs
              | some ie => rw [hi] at hs; exact ⟨ie, rfl, Option.some.inj hs⟩
            obtain ⟨ie, hie, hsz⟩ := hie
            have i0 : ¬ ((i : Int) < 0) := by omega
            have i1 : ¬ ((i : Int) ≥ n) := by omega
            have j0 : ¬ ((j : Int) < 0) := by omega
            have j1 : ¬ ((j : Int) ≥ n) := by omega
            have r1' : (loadVar e ⟨r, o + i * sizeT P e, none⟩).run P w = .ok u1 w := r1
            have r2' : (loadVar e ⟨r, o + j * sizeT P e, none⟩).run P w = .ok u2 w := r2
            have r3' : (storeVar e ⟨r, o + i * sizeT P e, none⟩ u2).run P w = .ok () w1 := r3
            have r4' : (storeVar e ⟨r, o + j * sizeT P e, none⟩ u1).run P w1 = .ok () w2 := r4
            rw [hg]
            have hrun : ∀ cc, (ReflectliteSwapper.swap gs #[.int .i64 i, .int .i64 j, .slice (some ⟨r, o, none⟩) n cc, typeHandle P e]).run P w = .ok (.tuple #[]) w2 := fun cc => by
              rw [rl_swap]
              cases gs <;> simp [i0, i1, j0, j1, ofHandle, handleType, typeHandle, ReflectliteSwapper.exchange, sizeOf, rl_info e ie hie, hsz, Addr.add_lit, r1', r2', r3', r4', Result.andThen]
            have := hrun (if op then cp + x else cp)
            show ((ReflectliteSwapper.swap gs #[.int .i64 (Int.ofNat i), .int .i64 (Int.ofNat j), .slice (some ⟨r, o, none⟩) n (if op then cp + x else cp), typeHandle P e]).run P w).andThen _ = _
            rw [show (ReflectliteSwapper.swap gs #[.int .i64 (Int.ofNat i), .int .i64 (Int.ofNat j), .slice (some ⟨r, o, none⟩) n (if op then cp + x else cp), typeHandle P e]).run P w = .ok (.tuple #[]) w2 from this]
            rfl
end
end Go.Proofs.YtpllompnfhpfmaaGreatDoor.Exe
namespace Go.Proofs.YtpllompnfhpfmaaGreatDoor.Exe
open Go

/-! ### A contract of a call in a state of ours: what the machine says it comes to -/
section
variable {Lg : Laid} {P : Program} {tab : Opt} (hX : OptOK Lg P tab) (hM : MemoOK Lg P tab.memo) (hm : P.follows .mixedOrders = true) (hN : NamesOk P)
include hX hM hm hN
/-- A call in a world that a state of ours describes: what it comes to, but for the numbers of new blocks. -/
theorem exec_at {g : FuncId} {n : Nat} {base : Base Lg} {w : World} {ρ : Rho} {S S2 : AS} {xs : List AV} {us : List Value} {v0 : AV} (hw : WRel base ρ S w) (hl : DenL ρ xs us)
    (h : sndF (bothF (tabOf P P.funcs.toList 0 .nil) (comp P true) tab n) (.fn g) xs S (fun v S' => matchK S v0 S2 v S') = some (.bool true, none)) :
    Calls P g us.toArray w fun e w' => ∃ ρ2 u, e = .returned u ∧ ρ.le ρ2 ∧ Keep ρ ρ2 S S2 ∧ WRel base ρ2 S2 w' ∧ Den ρ2 v0 u := by
  rw [sndF_eq] at h
  refine callsIn_wide.1 ((both_ok hX hM tabOf_ok hm hN n).2 base ρ S w (.fn g) xs us _ _ (fun e w' => ∃ ρ2 u, e = .returned u ∧ ρ.le ρ2 ∧ Keep ρ ρ2 S S2 ∧ WRel base ρ2 S2 w' ∧ Den ρ2 v0 u) hw hl h fun v S' ρ' w' u g1 g2 g3 g4 g5 => ?_).1
  obtain ⟨ms, hms⟩ := matchK_some g1
  obtain ⟨ρ2, r1, r2, r3, r4⟩ := match_ok hw hms g2 g3 g4 g5
  exact ⟨ρ2, u, rfl, r1, r2, r3, r4⟩
/-- A piece of code in a frame that a table of ours describes: what the machine says of it, it does. For pieces of a walk by hand. -/
theorem code_at {m n N : Nat} {base : Base Lg} {w : World} {ρ : Rho} {S : AS} {t : T} {a : Act} {k : KX} {z : AV × Option AS} {Q : Exit → Act → World → Prop} (hn : n ≤ N) (c : Code) (hr : RelA base ρ S w t a N)
    (h : runA (comp P false n c) (both (tabOf P P.funcs.toList 0 .nil) (comp P true) tab m).2 (both (tabOf P P.funcs.toList 0 .nil) (comp P true) tab m).1 t S k = some z) (hq : Outs base ρ S k z N Q) : c.wp P Q a w :=
  wpIn_wide.1 (code_wp (ro := none) (rd := false) hm hN (both_ok hX hM tabOf_ok hm hN m).2 (both_ok hX hM tabOf_ok hm hN m).1 (.inl rfl) hn c ρ S w t a k Q hr h hq)
end
end Go.Proofs.YtpllompnfhpfmaaGreatDoor.Exe
namespace Go.Proofs.YtpllompnfhpfmaaGreatDoor.Exe
open Go

/-! ### A state out of a list -/
noncomputable def fillH (l : List OA) : Nat → HT AObj → HT AObj := List.rec (motive := fun _ => Nat → HT AObj → HT AObj) (fun _ h => h) (fun x _ ih i h => ih (Nat.succ i) (h.setK x i)) l
noncomputable def asOf (l : List OA) : AS := { heap := fillH l 0 .nil, next := l.length }
noncomputable def fillC (l : List OA) : Nat → HT AObj → (HT AObj → R) → R := List.rec (motive := fun _ => Nat → HT AObj → (HT AObj → R) → R) (fun _ h k => k h) (fun x _ ih i h k => setHF x h i fun h => forceN (Nat.succ i) fun i => ih i h k) l
noncomputable def asC (l : List OA) (k : AS → R) : R := fillC l 0 .nil fun h => forceN l.length fun n => k { heap := h, next := n }
theorem fillC_eq : ∀ (l : List OA) (i : Nat) (h : HT AObj) (k : HT AObj → R), fillC l i h k = k (fillH l i h)
  | [], _, _, _ => rfl
  | x :: l, i, h, k => by
    show setHF x h i (fun h => forceN (Nat.succ i) fun i => fillC l i h k) = k (fillH l (Nat.succ i) (h.setK x i))
    rw [setHF_eq, forceN_eq, fillC_eq l]
theorem asC_eq (l : List OA) (k : AS → R) : asC l k = k (asOf l) := by
  unfold asC asOf
  rw [fillC_eq, forceN_eq]

/-! ### The numbers of blocks turned -/
noncomputable def reV (f : Nat → Nat) (v : AV) : AV := AV.rec (motive_1 := fun _ => AV) (motive_2 := fun _ => List AV) (fun b => .bool b) (fun k n => .int k n) (fun s => .str s) .pnil (fun p q => .ptr (f p) q) .snil (fun p q l c o => .sl (f p) q l c o) .mnil (fun p => .map (f p)) .fnil (fun g _ _ a c => .fn g a c) .inil (fun t _ i => .ifc t i) (fun _ i => .agg i) (fun l n => .bytes l n) (fun _ i => .tup i) .junk (fun p => .yl (f p)) .any (fun r o => .raw r o) (fun v => .lit v) [] (fun _ _ i is => i :: is) v
noncomputable def reL (f : Nat → Nat) (l : List AV) : List AV := AV.rec_1 (motive_1 := fun _ => AV) (motive_2 := fun _ => List AV) (fun b => .bool b) (fun k n => .int k n) (fun s => .str s) .pnil (fun p q => .ptr (f p) q) .snil (fun p q l c o => .sl (f p) q l c o) .mnil (fun p => .map (f p)) .fnil (fun g _ _ a c => .fn g a c) .inil (fun t _ i => .ifc t i) (fun _ i => .agg i) (fun l n => .bytes l n) (fun _ i => .tup i) .junk (fun p => .yl (f p)) .any (fun r o => .raw r o) (fun v => .lit v) [] (fun _ _ i is => i :: is) l
noncomputable def reC (f : Nat → Nat) (v : AV) : (AV → R) → R := AV.rec (motive_1 := fun _ => (AV → R) → R) (motive_2 := fun _ => (List AV → R) → R) (fun b k => k (.bool b)) (fun j n k => k (.int j n)) (fun s k => k (.str s)) (fun k => k .pnil) (fun p q k => forceN (f p) fun p => k (.ptr p q)) (fun k => k .snil) (fun p q l c o k => forceN (f p) fun p => k (.sl p q l c o)) (fun k => k .mnil) (fun p k => forceN (f p) fun p => k (.map p)) (fun k => k .fnil) (fun g _ _ a c k => a fun a => c fun c => k (.fn g a c)) (fun k => k .inil) (fun t _ i k => i fun v => k (.ifc t v)) (fun _ i k => i fun l => k (.agg l)) (fun l n k => k (.bytes l n)) (fun _ i k => i fun l => k (.tup l)) (fun k => k .junk) (fun p k => forceN (f p) fun p => k (.yl p)) (fun k => k .any) (fun r o k => k (.raw r o)) (fun v k => k (.lit v)) (fun k => k []) (fun _ _ i is k => i fun v => is fun l => k (v :: l)) v
noncomputable def reCs (f : Nat → Nat) (l : List AV) : (List AV → R) → R := AV.rec_1 (motive_1 := fun _ => (AV → R) → R) (motive_2 := fun _ => (List AV → R) → R) (fun b k => k (.bool b)) (fun j n k => k (.int j n)) (fun s k => k (.str s)) (fun k => k .pnil) (fun p q k => forceN (f p) fun p => k (.ptr p q)) (fun k => k .snil) (fun p q l c o k => forceN (f p) fun p => k (.sl p q l c o)) (fun k => k .mnil) (fun p k => forceN (f p) fun p => k (.map p)) (fun k => k .fnil) (fun g _ _ a c k => a fun a => c fun c => k (.fn g a c)) (fun k => k .inil) (fun t _ i k => i fun v => k (.ifc t v)) (fun _ i k => i fun l => k (.agg l)) (fun l n k => k (.bytes l n)) (fun _ i k => i fun l => k (.tup l)) (fun k => k .junk) (fun p k => forceN (f p) fun p => k (.yl p)) (fun k => k .any) (fun r o k => k (.raw r o)) (fun v k => k (.lit v)) (fun k => k []) (fun _ _ i is k => i fun v => is fun l => k (v :: l)) l
mutual
theorem reC_eq (f : Nat → Nat) : ∀ (v : AV) (k : AV → R), reC f v k = k (reV f v)
  | .bool _, _ => rfl
  | .int _ _, _ => rfl
  | .str _, _ => rfl
  | .pnil, _ => rfl
  | .ptr p q, k => (forceN_eq (f p) fun p => k (.ptr p q))
  | .snil, _ => rfl
  | .sl p q l c o, k => (forceN_eq (f p) fun p => k (.sl p q l c o))
  | .mnil, _ => rfl
  | .map p, k => (forceN_eq (f p) fun p => k (.map p))
  | .fnil, _ => rfl
  | .fn g a c, k => by
    show (reCs f a fun a => reCs f c fun c => k (.fn g a c)) = k (.fn g (reL f a) (reL f c))
    rw [reCs_eq f a, reCs_eq f c]
  | .inil, _ => rfl
  | .ifc t v, k => reC_eq f v fun v => k (.ifc t v)
  | .agg cs, k => reCs_eq f cs fun l => k (.agg l)
  | .bytes _ _, _ => rfl
  | .tup cs, k => reCs_eq f cs fun l => k (.tup l)
  | .junk, _ => rfl
  | .yl p, k => (forceN_eq (f p) fun p => k (.yl p))
  | .any, _ => rfl
  | .raw _ _, _ => rfl
  | .lit _, _ => rfl
theorem reCs_eq (f : Nat → Nat) : ∀ (l : List AV) (k : List AV → R), reCs f l k = k (reL f l)
  | [], _ => rfl
  | v :: l, k => by
    show (reC f v fun v => reCs f l fun l => k (v :: l)) = k (reV f v :: reL f l)
    rw [reC_eq f v, reCs_eq f l]
end
noncomputable def reE (f : Nat → Nat) (es : List (AV × AV × Nat)) : List (AV × AV × Nat) := List.rec (motive := fun _ => List (AV × AV × Nat)) [] (fun e _ ih => (reV f e.1, reV f e.2.1, e.2.2) :: ih) es
noncomputable def reEC (f : Nat → Nat) (es : List (AV × AV × Nat)) : (List (AV × AV × Nat) → R) → R := List.rec (motive := fun _ => (List (AV × AV × Nat) → R) → R) (fun k => k []) (fun e _ ih k => reC f e.1 fun a => reC f e.2.1 fun b => ih fun r => k ((a, b, e.2.2) :: r)) es
theorem reEC_eq (f : Nat → Nat) : ∀ (es : List (AV × AV × Nat)) (k : List (AV × AV × Nat) → R), reEC f es k = k (reE f es)
  | [], _ => rfl
  | e :: es, k => by
    show (reC f e.1 fun a => reC f e.2.1 fun b => reEC f es fun r => k ((a, b, e.2.2) :: r)) = k ((reV f e.1, reV f e.2.1, e.2.2) :: reE f es)
    rw [reC_eq, reC_eq, reEC_eq f es]
noncomputable def reO (f : Nat → Nat) (o : OA) : OA := Option.rec (motive := fun _ => OA) none (fun o => AObj.rec (motive := fun _ => OA) (fun e z cs => some (.cells e z (reL f cs))) (fun es c => some (.map (reE f es) c)) (fun _ _ _ _ _ _ _ => none) (fun b => some (.dfr b)) (fun _ _ _ _ => none) o) o
noncomputable def reOC (f : Nat → Nat) (o : OA) (k : OA → R) : R := Option.rec (motive := fun _ => R) (k none) (fun o => AObj.rec (motive := fun _ => R) (fun e z cs => reCs f cs fun cs => k (some (.cells e z cs))) (fun es c => reEC f es fun es => k (some (.map es c))) (fun _ _ _ _ _ _ _ => k none) (fun b => k (some (.dfr b))) (fun _ _ _ _ => k none) o) o
theorem reOC_eq (f : Nat → Nat) (o : OA) (k : OA → R) : reOC f o k = k (reO f o) := by
  cases o with
  | none => rfl
  | some o => cases o <;> first | rfl | exact reCs_eq f _ _ | exact reEC_eq f _ _
theorem isOne_re (f : Nat → Nat) {c : AV} (h : isOne c = true) : isOne (reV f c) = true := by cases c <;> first | rfl | exact h
section
variable {ρ2 ρo : Rho} {f : Nat → Nat}
mutual
theorem Den.re (hf : ∀ a q, ρ2 a = some q → ρo (f a) = some q) : ∀ {v : AV} {u : Value}, Den ρ2 v u → Den ρo (reV f v) u
  | _, _, .bool b => .bool b
  | _, _, .int k n => .int k n
  | _, _, .str s => .str s
  | _, _, .pnil => .pnil
  | _, _, .ptr h => .ptr (hf _ _ h)
  | _, _, .snil => .snil
  | _, _, .sl h => .sl (hf _ _ h)
  | _, _, .sl0 h => .sl0 (hf _ _ h)
  | _, _, .mnil => .mnil
  | _, _, .map h => .map (hf _ _ h)
  | _, _, .fnil => .fnil
  | _, _, .fn a c => .fn (a.re hf) (c.re hf)
  | _, _, .inil => .inil
  | _, _, .ifc a => .ifc (a.re hf)
  | _, _, .agg a => .agg (a.re hf)
  | _, _, .tup a => .tup (a.re hf)
  | _, _, .junk v => .junk v
  | _, _, .yl h => .yl (hf _ _ h)
  | _, _, .any a b => .any a b
  | _, _, .raw r o => .raw r o
  | _, _, .lit a b => .lit a b
theorem DenL.re (hf : ∀ a q, ρ2 a = some q → ρo (f a) = some q) : ∀ {vs : List AV} {us : List Value}, DenL ρ2 vs us → DenL ρo (reL f vs) us
  | _, _, .nil => .nil
  | _, _, .cons a b => .cons (a.re hf) (b.re hf)
theorem Cells.re (hf : ∀ a q, ρ2 a = some q → ρo (f a) = some q) : ∀ {vs : List AV} {us : List Value}, Cells ρ2 vs us → Cells ρo (reL f vs) us
  | _, _, .nil => .nil
  | _, _, .bytes c => .bytes (c.re hf)
  | _, _, .one o d c => .one (isOne_re f o) (d.re hf) (c.re hf)
end
theorem Ents.re (hf : ∀ a q, ρ2 a = some q → ρo (f a) = some q) : ∀ {es : List (AV × AV × Nat)} {ms : List MapEntry}, Ents ρ2 es ms → Ents ρo (reE f es) ms
  | _, _, .nil => .nil
  | _, _, .cons a b c d => .cons (a.re hf) (b.re hf) c (d.re hf)
theorem ORel.re (hf : ∀ a q, ρ2 a = some q → ρo (f a) = some q) {x : Nat} {o : AObj} {u : Obj} {o' : AObj} (h : ORel ρ2 x o u) (e : reO f (some o) = some o') : ORel ρo x o' u := by
  cases h with
  | cells a b c => cases e; exact .cells (a.re hf) b c
  | map a => cases e; exact .map (a.re hf)
  | loop => cases e
  | dfr => cases e; exact .dfr
  | gone => cases e; exact .gone
  | iter => cases e
end

section
variable {A : Nat → Nat → Bool} {f : Nat → Nat}
mutual
theorem Iso.re_eq (hf : ∀ a b, A a b = true → f a = b) : ∀ {x y : AV}, Iso A x y → reV f x = y
  | _, _, .bool _ => rfl
  | _, _, .int _ _ => rfl
  | _, _, .str _ => rfl
  | _, _, .pnil => rfl
  | _, _, .ptr q h => congrArg (fun p => AV.ptr p q) (hf _ _ h)
  | _, _, .snil => rfl
  | _, _, .sl q l c o h => congrArg (fun p => AV.sl p q l c o) (hf _ _ h)
  | _, _, .mnil => rfl
  | _, _, .map h => congrArg AV.map (hf _ _ h)
  | _, _, .fnil => rfl
  | _, _, .fn g a c => by
    have e1 := a.re_eq hf
    have e2 := c.re_eq hf
    subst e1 e2
    rfl
  | _, _, .inil => rfl
  | _, _, .ifc t v => congrArg (AV.ifc t) (v.re_eq hf)
  | _, _, .agg l => congrArg AV.agg (l.re_eq hf)
  | _, _, .bytes _ _ => rfl
  | _, _, .tup l => congrArg AV.tup (l.re_eq hf)
  | _, _, .raw _ _ => rfl
theorem IsoL.re_eq (hf : ∀ a b, A a b = true → f a = b) : ∀ {x y : List AV}, IsoL A x y → reL f x = y
  | _, _, .nil => rfl
  | _, _, .cons v l => by
    have e1 := v.re_eq hf
    have e2 := l.re_eq hf
    subst e1 e2
    rfl
end
theorem reE_iso (hf : ∀ a b, A a b = true → f a = b) : ∀ {x y : List (AV × AV × Nat)}, isoE A x y = true → reE f x = y
  | [], [], _ => rfl
  | [], _ :: _, h => by cases h
  | _ :: _, [], h => by cases h
  | (k, v, b) :: xs, (k', v', b') :: ys, h => by
    obtain ⟨h1, h2, h3, h4⟩ := isoE_cons h
    have e1 := h1.re_eq hf
    have e2 := h2.re_eq hf
    have e4 := reE_iso hf h4
    simp only at e1 e2 h3
    subst e1 e2 h3 e4
    rfl
theorem reO_iso (hf : ∀ a b, A a b = true → f a = b) {oA o o' : AObj} (h : isoO A oA o = true) (e : reO f (some oA) = some o') : o' = o := by
  cases oA with
  | cells e1 z cs =>
    cases o <;> first | (cases h; done) | skip
    rename_i e2 z2 cs2
    obtain ⟨h1, h⟩ := ifB_bool (show ifB (Nat.beq e1 e2) (ifB (Nat.beq z z2) (isoL A cs cs2) false) false = true from h)
    obtain ⟨h2, h3⟩ := ifB_bool h
    have e : some (AObj.cells e1 z (reL f cs)) = some o' := e
    have h1 : e1 = e2 := beq_true h1
    rw [(isoL_iso _ _ h3).re_eq hf, h1, beq_true h2] at e
    exact (Option.some.inj e).symm
  | map es c =>
    cases o <;> first | (cases h; done) | skip
    rename_i es2 c2
    obtain ⟨h1, h2⟩ := ifB_bool (show ifB (Nat.beq c c2) (isoE A es es2) false = true from h)
    have e : some (AObj.map (reE f es) c) = some o' := e
    rw [reE_iso hf h2, beq_true h1] at e
    exact (Option.some.inj e).symm
  | loop => cases e
  | dfr => cases h
  | iter => cases e
end

/-! ### What a record says of a state that holds more -/
noncomputable def rnN (ms : Pairs) (n1 n0 a : Nat) : Nat := ifB (Nat.ble n1 a) (Nat.add n0 (Nat.sub a n1)) (Option.rec (motive := fun _ => Nat) 0 (fun c => c) (lookN ms a))
noncomputable def outA (f : Nat → Nat) (S2 : AS) (ms : Pairs) : HT AObj → HT AObj := List.rec (motive := fun _ => HT AObj → HT AObj) (fun h => h) (fun p _ ih h => ih (h.setK (reO f (S2.heap.getK p.1)) p.2)) ms
noncomputable def outAC (f : Nat → Nat) (S2 : AS) (ms : Pairs) : HT AObj → (HT AObj → R) → R := List.rec (motive := fun _ => HT AObj → (HT AObj → R) → R) (fun h k => k h) (fun p _ ih h k => getHF S2.heap p.1 fun o => reOC f o fun o => setHF o h p.2 fun h => ih h k) ms
theorem outAC_eq (f : Nat → Nat) (S2 : AS) : ∀ (ms : Pairs) (h : HT AObj) (k : HT AObj → R), outAC f S2 ms h k = k (outA f S2 ms h)
  | [], _, _ => rfl
  | p :: ms, h, k => by
    show (getHF S2.heap p.1 fun o => reOC f o fun o => setHF o h p.2 fun h => outAC f S2 ms h k) = k (outA f S2 ms (h.setK (reO f (S2.heap.getK p.1)) p.2))
    rw [getHF_eq, reOC_eq, setHF_eq, outAC_eq f S2 ms]
theorem outA_get (f : Nat → Nat) (S2 : AS) : ∀ (ms : Pairs) (h : HT AObj) {b : Nat} {o : AObj}, (outA f S2 ms h).getK b = some o → (∃ p ∈ ms, p.2 = b ∧ reO f (S2.heap.getK p.1) = some o) ∨ (h.getK b = some o ∧ ∀ p ∈ ms, p.2 ≠ b)
  | [], _, _, _, e => .inr ⟨e, fun _ hp => by cases hp⟩
  | p :: ms, h, b, o, e => by
    have e : (outA f S2 ms (h.setK (reO f (S2.heap.getK p.1)) p.2)).getK b = some o := e
    rcases outA_get f S2 ms _ e with ⟨q, hq, h1, h2⟩ | ⟨h1, h2⟩
    · exact .inl ⟨q, List.mem_cons_of_mem _ hq, h1, h2⟩
    · rcases HT.getK_setK _ _ _ h1 with ⟨h3, h4⟩ | ⟨h3, h4⟩
      · exact .inl ⟨p, List.mem_cons_self, h3.symm, h4⟩
      · refine .inr ⟨h4, fun q hq => ?_⟩
        rcases List.mem_cons.1 hq with rfl | hq
        · exact fun e => h3 e.symm
        · exact h2 q hq
noncomputable def outB (f : Nat → Nat) (S2 : AS) (n1 n0 : Nat) (m : Nat) : HT AObj → HT AObj := Nat.rec (motive := fun _ => HT AObj → HT AObj) (fun h => h) (fun m ih h => (ih h).setK (reO f (S2.heap.getK (Nat.add n1 m))) (Nat.add n0 m)) m
noncomputable def outBC (f : Nat → Nat) (S2 : AS) (n1 n0 : Nat) (m : Nat) : HT AObj → (HT AObj → R) → R := Nat.rec (motive := fun _ => HT AObj → (HT AObj → R) → R) (fun h k => k h) (fun m ih h k => ih h fun h => forceN (Nat.add n1 m) fun a => forceN (Nat.add n0 m) fun b => getHF S2.heap a fun o => reOC f o fun o => setHF o h b k) m
theorem outBC_eq (f : Nat → Nat) (S2 : AS) (n1 n0 : Nat) : ∀ (m : Nat) (h : HT AObj) (k : HT AObj → R), outBC f S2 n1 n0 m h k = k (outB f S2 n1 n0 m h)
  | 0, _, _ => rfl
  | m + 1, h, k => by
    show (outBC f S2 n1 n0 m h fun h => forceN (Nat.add n1 m) fun a => forceN (Nat.add n0 m) fun b => getHF S2.heap a fun o => reOC f o fun o => setHF o h b k) = k ((outB f S2 n1 n0 m h).setK (reO f (S2.heap.getK (Nat.add n1 m))) (Nat.add n0 m))
    rw [outBC_eq f S2 n1 n0 m, forceN_eq, forceN_eq, getHF_eq, reOC_eq, setHF_eq]
theorem outB_get (f : Nat → Nat) (S2 : AS) (n1 n0 : Nat) : ∀ (m : Nat) (h : HT AObj) {b : Nat} {o : AObj}, (outB f S2 n1 n0 m h).getK b = some o → (∃ i, i < m ∧ b = n0 + i ∧ reO f (S2.heap.getK (n1 + i)) = some o) ∨ (h.getK b = some o ∧ ∀ i, i < m → b ≠ n0 + i)
  | 0, _, _, _, e => .inr ⟨e, fun _ hi => by omega⟩
  | m + 1, h, b, o, e => by
    have e : ((outB f S2 n1 n0 m h).setK (reO f (S2.heap.getK (Nat.add n1 m))) (Nat.add n0 m)).getK b = some o := e
    rcases HT.getK_setK _ _ _ e with ⟨h1, h2⟩ | ⟨h1, h2⟩
    · exact .inl ⟨m, by omega, h1, h2⟩
    · rcases outB_get f S2 n1 n0 m h h2 with ⟨i, h3, h4, h5⟩ | ⟨h3, h4⟩
      · exact .inl ⟨i, by omega, h4, h5⟩
      · refine .inr ⟨h3, fun i hi => ?_⟩
        by_cases he : i = m
        · subst he; exact h1
        · exact h4 i (by omega)
/-- A record: of a call with these arguments, in a state with these objects: what it comes to. -/
structure Rec where
  f : FuncId
  xs : List AV
  l : List OA
  v : AV
  l2 : List OA
noncomputable def recCheck (ms : Pairs) (rxs : List AV) (SA : AS) (xs : List AV) (S : AS) : Bool :=
  andB (apartP ms) <| andB (isoL (okA 0 ms) rxs xs) <| allP (fun p => andB (Option.rec (motive := fun _ => Bool) false (fun c => Nat.beq c p.2) (lookN ms p.1)) <| andB (Nat.ble (Nat.succ p.1) SA.next) (andB (Nat.ble (Nat.succ p.2) S.next) (Option.rec (motive := fun _ => Bool) false (fun oA => Option.rec (motive := fun _ => Bool) false (fun o => isoO (okA 0 ms) oA o) (S.heap.getK p.2)) (SA.heap.getK p.1)))) ms
noncomputable def recOut (ms : Pairs) (n1 : Nat) (v : AV) (S2 : AS) (S : AS) (k : K) : R :=
  forceN S.next fun n0 => reC (rnN ms n1 n0) v fun v => outAC (rnN ms n1 n0) S2 ms S.heap fun h => forceN (Nat.sub S2.next n1) fun m => outBC (rnN ms n1 n0) S2 n1 n0 m h fun h => forceN (Nat.add n0 m) fun n => k v { heap := h, next := n }
theorem recOut_eq (ms : Pairs) (n1 : Nat) (v : AV) (S2 S : AS) (k : K) : recOut ms n1 v S2 S k = k (reV (rnN ms n1 S.next) v) { heap := outB (rnN ms n1 S.next) S2 n1 S.next (S2.next - n1) (outA (rnN ms n1 S.next) S2 ms S.heap), next := S.next + (S2.next - n1) } := by
  unfold recOut
  rw [forceN_eq, reC_eq, outAC_eq, forceN_eq, outBC_eq, forceN_eq]
  rfl
noncomputable def recOf (r : Rec) : RF := fun xs S k miss => asC r.l fun SA => pairsK 0 (.tup r.xs) SA (.tup xs) S fun ms => ifB (recCheck ms r.xs SA xs S) (asC r.l2 fun S2 => recOut ms SA.next r.v S2 S k) miss
theorem pairsK_eq (n0 : Nat) (v2 : AV) (S2 : AS) (v : AV) (S' : AS) (k : Pairs → R) : ∃ ms, pairsK n0 v2 S2 v S' k = k ms := by
  unfold pairsK
  rw [forceL_eq]
  obtain ⟨m1, h1⟩ := oldP_eq n0 S2 S' n0 (zipK n0 (addrsV v2 []) (addrsV v []) []) fun ms => newP n0 S2 S' 1000000 0 ms k
  rw [h1]
  exact newP_eq n0 S2 S' 1000000 0 m1 k
/-- What a record says, it is. -/
def RecOK (Lg : Laid) (P : Program) (r : Rec) : Prop := ∀ (base : Base Lg) (ρ : Rho) (w : World) (us : List Value), WRel base ρ (asOf r.l) w → DenL ρ r.xs us →
  CEOK P ρ (.fn r.f) us w fun e w' => ∃ ρ2 u, e = .returned u ∧ ρ.le ρ2 ∧ Keep ρ ρ2 (asOf r.l) (asOf r.l2) ∧ WRel base ρ2 (asOf r.l2) w' ∧ Den ρ2 r.v u
theorem CEOK.mono {P : Program} {ρ : Rho} {g : FuncId} {us : List Value} {w : World} {R R' : Ending → World → Prop} (h : CEOK P ρ (.fn g) us w R) (hR : ∀ e w', R e w' → R' e w') : CEOK P ρ (.fn g) us w R' := ⟨CallsIn.mono h.1 hR, h.2⟩
theorem okA_zero {ms : Pairs} {a b : Nat} (h : okA 0 ms a b = true) : lookN ms a = some b := by
  have h : Option.rec (motive := fun _ => Bool) false (fun c => Nat.beq c b) (lookN ms a) = true := h
  cases e : lookN ms a with
  | none => rw [e] at h; cases h
  | some c => rw [e] at h; rw [beq_true h]
theorem recOf_ok {Lg : Laid} {P : Program} {r : Rec} (hr : RecOK Lg P r) : RfOK Lg P r.f (recOf r) := by
  intro base ρ S w xs us k miss z R hw hx h hR
  have h : asC r.l (fun SA => pairsK 0 (.tup r.xs) SA (.tup xs) S fun ms => ifB (recCheck ms r.xs SA xs S) (asC r.l2 fun S2 => recOut ms SA.next r.v S2 S k) miss) = some z := h
  rw [asC_eq] at h
  obtain ⟨ms, hms⟩ := pairsK_eq 0 (.tup r.xs) (asOf r.l) (.tup xs) S fun ms => ifB (recCheck ms r.xs (asOf r.l) xs S) (asC r.l2 fun S2 => recOut ms (asOf r.l).next r.v S2 S k) miss
  rw [hms] at h
  rcases ifB_or h with ⟨hc, h⟩ | ⟨_, h⟩
  case inr => exact .inl h
  refine .inr ?_
  rw [asC_eq, recOut_eq] at h
  obtain ⟨c1, hc⟩ := ifB_bool hc
  obtain ⟨c2, c3⟩ := ifB_bool hc
  have c4 : ∀ p ∈ ms, lookN ms p.1 = some p.2 := fun p hp => by
    obtain ⟨d1, _⟩ := ifB_bool (allP_mem c3 p hp)
    cases e : lookN ms p.1 with
    | none => rw [e] at d1; cases d1
    | some c => rw [e] at d1; rw [beq_true d1]
  have c3 : ∀ p ∈ ms, p.1 < (asOf r.l).next ∧ p.2 < S.next ∧ ∃ oA o, (asOf r.l).heap.getK p.1 = some oA ∧ S.heap.getK p.2 = some o ∧ isoO (okA 0 ms) oA o = true := fun p hp => by
    obtain ⟨_, d⟩ := ifB_bool (allP_mem c3 p hp)
    obtain ⟨d1, d⟩ := ifB_bool d
    obtain ⟨d2, d3⟩ := ifB_bool d
    refine ⟨ble_true d1, ble_true d2, ?_⟩
    cases e1 : (asOf r.l).heap.getK p.1 with
    | none => rw [e1] at d3; cases d3
    | some oA =>
      cases e2 : S.heap.getK p.2 with
      | none => rw [e1, e2] at d3; cases d3
      | some o => rw [e1, e2] at d3; exact ⟨oA, o, rfl, rfl, d3⟩
  obtain ⟨n1, hn1⟩ : ∃ n1, n1 = (asOf r.l).next := ⟨_, rfl⟩
  rw [← hn1] at h c3
  -- what the record's numbers stand for
  obtain ⟨ρA, hρA⟩ : ∃ ρA : Rho, ∀ a, ρA a = (lookN ms a).bind ρ := ⟨fun a => (lookN ms a).bind ρ, fun _ => rfl⟩
  have hA : ∀ a b, okA 0 ms a b = true → ρA a = ρ b := fun a b e => by rw [hρA, okA_zero e]; rfl
  have get : ∀ {a q}, ρA a = some q → ∃ c, lookN ms a = some c ∧ ρ c = some q := fun {a q} e => by
    rw [hρA] at e
    exact Option.bind_eq_some_iff.1 e
  have liv : ∀ {a c}, lookN ms a = some c → S.live c := fun {a c} e => by
    obtain ⟨_, _, _, o, _, e2, _⟩ := c3 (a, c) (lookN_mem e)
    exact ⟨o, e2⟩
  have hhere : ∀ p, p ∈ Lg → (∃ o, w.heap[p.1]? = some o ∧ p.2 o) ∧ ¬ ∃ a x, ρA a = some (p.1, x) := fun p hp => by
    refine ⟨hw.laid p hp, fun ⟨a, x, ea⟩ => ?_⟩
    obtain ⟨c, _, e2⟩ := get ea
    obtain ⟨⟨_, b1, _⟩, b2⟩ := base.here p hp
    rcases (hw.rng c p.1 x e2).1 with h1 | h1
    · have := (Array.getElem?_eq_some_iff.1 b1).1
      omega
    · exact b2 h1
  have hwA : WRel (Lg := Lg) ⟨w, fun q => ∃ a x, ρA a = some (q, x), hhere⟩ ρA (asOf r.l) w := by
    refine { low := fun _ _ _ => rfl, size := Nat.le_refl _, os := rfl, output := rfl, tape := rfl, dom := fun b hb => ?_, rng := fun b q x e => ?_, inj := fun a b q x y _ _ ea eb => ?_, obj := fun a o q x ho e => ?_ }
    · rw [hρA]
      cases e : lookN ms b with
      | none => rfl
      | some c =>
        have := (c3 (b, c) (lookN_mem e)).1
        omega
    · obtain ⟨c, _, e2⟩ := get e
      exact ⟨.inr ⟨b, x, e⟩, (hw.rng c q x e2).2⟩
    · obtain ⟨c, l1, e1⟩ := get ea
      obtain ⟨d, l2, e2⟩ := get eb
      have := hw.inj c d q x y (liv l1) (liv l2) e1 e2
      subst this
      exact apartP_inj c1 (lookN_mem l1) (lookN_mem l2)
    · obtain ⟨c, l1, e1⟩ := get e
      obtain ⟨_, _, oA, o', g1, g2, g3⟩ := c3 (a, c) (lookN_mem l1)
      have g1 : (asOf r.l).heap.getK a = some oA := g1
      rw [ho] at g1
      cases g1
      obtain ⟨u, hu, hrel⟩ := hw.obj c o' q x g2 e1
      exact ⟨u, hu, isoO_rel hA g3 hrel⟩
  refine (hr _ ρA w us hwA ((isoL_iso _ _ c2).den hA hx)).mono fun e w' ⟨ρ2, u, he, hle, hk, hw2, hd⟩ => ?_
  subst he
  have hk1 : n1 ≤ (asOf r.l2).next := by rw [hn1]; exact hk.1
  have hk2 : ∀ a, a < n1 → ρA a = none → ρ2 a = none := fun a ha e => (hk.2 a (by rw [← hn1]; exact ha) e).1
  have hk3 : ∀ a, a < n1 → ρA a = none → ∀ o, (asOf r.l2).heap.getK a = some o → (asOf r.l).heap.getK a = some o := fun a ha e => (hk.2 a (by rw [← hn1]; exact ha) e).2
  generalize asOf r.l2 = S2 at h hk1 hk3 hw2
  -- all numbers, behind it
  obtain ⟨ρo, hρo⟩ : ∃ ρo : Rho, ∀ b, ρo b = if b < S.next then ρ b else ρ2 (n1 + (b - S.next)) := ⟨fun b => if b < S.next then ρ b else ρ2 (n1 + (b - S.next)), fun _ => rfl⟩
  have old : ∀ {b}, b < S.next → ρo b = ρ b := fun hb => by rw [hρo, if_pos hb]
  have new : ∀ i, ρo (S.next + i) = ρ2 (n1 + i) := fun i => by rw [hρo, if_neg (by omega)]; congr 1; omega
  have hlo : ρ.le ρo := fun b q e => by
    have : b < S.next := by
      rcases Nat.lt_or_ge b S.next with hb | hb
      · exact hb
      · rw [hw.dom b hb] at e; cases e
    rw [old this]; exact e
  have hf : ∀ a q, ρ2 a = some q → ρo (rnN ms n1 S.next a) = some q := fun a q e => by
    unfold rnN
    rcases Nat.lt_or_ge a n1 with ha | ha
    · rw [show Nat.ble n1 a = false from Bool.eq_false_iff.2 fun h => by have := ble_true h; omega]
      cases hA2 : ρA a with
      | none => rw [hk2 a ha hA2] at e; cases e
      | some q' =>
        have e3 := hle _ _ hA2
        rw [e] at e3
        cases e3
        obtain ⟨c, l1, e1⟩ := get hA2
        rw [l1]
        show ρo c = some q
        rw [old (c3 (a, c) (lookN_mem l1)).2.1]
        exact e1
    · rw [show Nat.ble n1 a = true from Nat.ble_eq_true_of_le ha]
      show ρo (S.next + (a - n1)) = some q
      rw [new, Nat.add_sub_cancel' ha]
      exact e
  -- who is ours is in the record
  have own : ∀ {b q x}, S.live b → ρ b = some (q, x) → (∃ a y, ρA a = some (q, y)) → ∃ a, lookN ms a = some b := fun {b q x} hb e ⟨a, y, e2⟩ => by
    obtain ⟨c, l1, e1⟩ := get e2
    have := hw.inj b c q x y hb (liv l1) e e1
    subst this
    exact ⟨a, l1⟩
  have hS : ∀ {b o}, (outB (rnN ms n1 S.next) S2 n1 S.next (S2.next - n1) (outA (rnN ms n1 S.next) S2 ms S.heap)).getK b = some o →
      (∃ i, b = S.next + i ∧ ∃ o2, S2.heap.getK (n1 + i) = some o2 ∧ reO (rnN ms n1 S.next) (some o2) = some o) ∨
      (b < S.next ∧ ∃ a, (a, b) ∈ ms ∧ ∃ o2, S2.heap.getK a = some o2 ∧ reO (rnN ms n1 S.next) (some o2) = some o) ∨
      ((∀ i, i < S2.next - n1 → b ≠ S.next + i) ∧ S.heap.getK b = some o ∧ ∀ a, (a, b) ∉ ms) := fun {b o} e => by
    have some2 : ∀ {x : OA}, reO (rnN ms n1 S.next) x = some o → ∃ o2, x = some o2 ∧ reO (rnN ms n1 S.next) (some o2) = some o := fun {x} h => by
      cases x with
      | none => cases h
      | some o2 => exact ⟨o2, rfl, h⟩
    rcases outB_get _ _ _ _ _ _ e with ⟨i, h1, h2, h3⟩ | ⟨h1, h2⟩
    · exact .inl ⟨i, h2, some2 h3⟩
    · rcases outA_get _ _ _ _ h1 with ⟨p, hp, h3, h4⟩ | ⟨h3, h4⟩
      · subst h3
        exact .inr (.inl ⟨(c3 p hp).2.1, p.1, hp, some2 h4⟩)
      · exact .inr (.inr ⟨h2, h3, fun a ha => h4 _ ha rfl⟩)
  have live_lt : ∀ {b q}, (∀ i, i < S2.next - n1 → b ≠ S.next + i) → ρo b = some q → b < S.next := fun {b q} hn e => by
    rcases Nat.lt_or_ge b S.next with hb | hb
    · exact hb
    · rw [hρo, if_neg (by omega)] at e
      rcases Nat.lt_or_ge (n1 + (b - S.next)) S2.next with h3 | h3
      · exact absurd (by omega) (hn (b - S.next) (by omega))
      · rw [hw2.dom _ h3] at e; cases e
  have look : ∀ {a b q x}, (a, b) ∈ ms → ρ b = some (q, x) → ρ2 a = some (q, x) := fun {a b q x} hm e => by
    exact hle _ _ (by rw [hρA, c4 _ hm]; exact e)
  refine hR _ _ ρo w' u h hlo ⟨Nat.le_add_right _ _, fun b hb e => ⟨by rw [old hb]; exact e, fun o ho => ?_⟩⟩ ?_ (hd.re hf)
  · rcases hS ho with ⟨i, h1, _⟩ | ⟨_, a, h1, o2, h2, h3⟩ | ⟨_, h2, _⟩
    · omega
    · obtain ⟨q1, q2, oA, o', q3, q4, q5⟩ := c3 _ h1
      have e1 : ρA a = none := by rw [hρA, c4 _ h1]; exact e
      have e2 := hk3 a q1 e1 _ h2
      have q3 : (asOf r.l).heap.getK a = some oA := q3
      rw [e2] at q3
      cases q3
      rw [reO_iso (fun a' b' h' => ?_) q5 h3]
      · exact q4
      · have l1 := okA_zero h'
        have : a' < n1 := (c3 _ (lookN_mem l1)).1
        unfold rnN
        rw [show Nat.ble n1 a' = false from Bool.eq_false_iff.2 fun h => by have := ble_true h; omega, l1]
        rfl
    · exact h2
  refine { low := fun q hq ho => ?_, size := Nat.le_trans hw.size hw2.size, os := hw2.os.trans hw.os, output := hw2.output.trans hw.output, tape := hw2.tape.trans hw.tape, dom := fun b hb => ?_, rng := fun b q x e => ?_, inj := fun b c q x y ⟨ob, hb⟩ ⟨oc, hc⟩ eb ec => ?_, obj := fun b o q x hb e => ?_ }
  · refine (hw2.low q (Nat.lt_of_lt_of_le hq hw.size) fun ⟨a, x, e⟩ => ?_).trans (hw.low q hq ho)
    obtain ⟨c, _, e1⟩ := get e
    exact (hw.rng c q x e1).1.elim (fun g => by omega) ho
  · have hb : S.next + (S2.next - n1) ≤ b := hb
    rw [hρo, if_neg (by omega)]
    exact hw2.dom _ (by omega)
  · rcases Nat.lt_or_ge b S.next with hb | hb
    · rw [old hb] at e
      have := hw.rng b q x e
      exact ⟨this.1, Nat.lt_of_lt_of_le this.2 hw2.size⟩
    · rw [hρo, if_neg (by omega)] at e
      obtain ⟨g1, g2⟩ := hw2.rng _ q x e
      refine ⟨?_, g2⟩
      rcases g1 with g1 | ⟨a, y, e2⟩
      · exact .inl (Nat.le_trans hw.size g1)
      · obtain ⟨c, _, e1⟩ := get e2
        exact (hw.rng c q y e1).1
  · -- two live numbers of one block
    have side : ∀ {b c o1 o2 q x y i a}, (a, b) ∈ ms → S2.heap.getK a = some o1 → ρ b = some (q, x) → S2.heap.getK (n1 + i) = some o2 → ρ2 (n1 + i) = some (q, y) → b = c := fun {b c o1 o2 q x y i a} hm h1 e h2 e2 => by
      have := hw2.inj a (n1 + i) q x y ⟨_, h1⟩ ⟨_, h2⟩ (look hm e) e2
      have := (c3 _ hm).1
      simp only at this
      omega
    have side2 : ∀ {b c o o2 q x y i}, S.heap.getK b = some o → (∀ a, (a, b) ∉ ms) → ρ b = some (q, x) → S2.heap.getK (n1 + i) = some o2 → ρ2 (n1 + i) = some (q, y) → b = c := fun {b c o o2 q x y i} h1 hno e h2 e2 => by
      rcases (hw2.rng _ _ _ e2).1 with g | g
      · have g : w.heap.size ≤ q := g
        have := (hw.rng b q x e).2
        omega
      · obtain ⟨a, l1⟩ := own ⟨_, h1⟩ e g
        exact absurd (lookN_mem l1) (hno a)
    rcases hS hb with ⟨i, h1, o1, h2, _⟩ | ⟨hbl, a, h1, o1, h2, _⟩ | ⟨hbn, h1, hno⟩ <;> rcases hS hc with ⟨j, g1, o2, g2, _⟩ | ⟨hcl, a', g1, o2, g2, _⟩ | ⟨hcn, g1, gno⟩
    · subst h1 g1
      rw [new] at eb ec
      have := hw2.inj _ _ q x y ⟨_, h2⟩ ⟨_, g2⟩ eb ec
      omega
    · subst h1
      rw [new] at eb
      rw [old hcl] at ec
      exact (side g1 g2 ec h2 eb).symm
    · subst h1
      rw [new] at eb
      have hcl : c < S.next := live_lt hcn ec
      rw [old hcl] at ec
      exact (side2 g1 gno ec h2 eb).symm
    · subst g1
      rw [new] at ec
      rw [old hbl] at eb
      exact side h1 h2 eb g2 ec
    · rw [old hbl] at eb
      rw [old hcl] at ec
      exact hw.inj b c q x y (liv (c4 _ h1)) (liv (c4 _ g1)) eb ec
    · have hcl : c < S.next := live_lt hcn ec
      rw [old hbl] at eb
      rw [old hcl] at ec
      exact hw.inj b c q x y (liv (c4 _ h1)) ⟨_, g1⟩ eb ec
    · subst g1
      rw [new] at ec
      have hbl : b < S.next := live_lt hbn eb
      rw [old hbl] at eb
      exact side2 h1 hno eb g2 ec
    · have hbl : b < S.next := live_lt hbn eb
      rw [old hbl] at eb
      rw [old hcl] at ec
      exact hw.inj b c q x y ⟨_, h1⟩ (liv (c4 _ g1)) eb ec
    · have hbl : b < S.next := live_lt hbn eb
      have hcl : c < S.next := live_lt hcn ec
      rw [old hbl] at eb
      rw [old hcl] at ec
      exact hw.inj b c q x y ⟨_, h1⟩ ⟨_, g1⟩ eb ec
  · rcases hS hb with ⟨i, h1, o2, h2, h3⟩ | ⟨hbl, a, h1, o2, h2, h3⟩ | ⟨hbn, h1, hno⟩
    · subst h1
      rw [new] at e
      obtain ⟨u', hu, hrel⟩ := hw2.obj _ o2 q x h2 e
      exact ⟨u', hu, hrel.re hf h3⟩
    · rw [old hbl] at e
      obtain ⟨u', hu, hrel⟩ := hw2.obj a o2 q x h2 (look h1 e)
      exact ⟨u', hu, hrel.re hf h3⟩
    · have hbl : b < S.next := live_lt hbn e
      rw [old hbl] at e
      obtain ⟨u', hu, hrel⟩ := hw.obj b o q x h1 e
      refine ⟨u', ?_, hrel.mono hlo⟩
      rw [hw2.low q (hw.rng b q x e).2 fun hown => ?_]
      · exact hu
      · obtain ⟨a, l1⟩ := own ⟨_, h1⟩ e hown
        exact hno a (lookN_mem l1)
end Go.Proofs.YtpllompnfhpfmaaGreatDoor.Exe
namespace Go.Proofs.YtpllompnfhpfmaaGreatDoor.Exe
open Go
/-- What a call comes to, for a text that prints it. -/
noncomputable def tellK : K := fun v S' => some (v, some S')
section
variable {Lg : Laid} {P : Program} {tab : Opt} (hX : OptOK Lg P tab) (hM : MemoOK Lg P tab.memo) (hm : P.follows .mixedOrders = true) (hN : NamesOk P)
include hX hM hm hN
/-- What our machine says of a call in a state of some objects is a record. -/
theorem rec_run {r : Rec} {n : Nat} (h : asC r.l (fun S => sndF (bothF (tabOf P P.funcs.toList 0 .nil) (comp P true) tab n) (.fn r.f) r.xs S (fun v S' => asC r.l2 fun S2 => matchK S r.v S2 v S')) = some (.bool true, none)) : RecOK Lg P r := by
  rw [asC_eq, sndF_eq] at h
  intro base ρ w us hw hl
  refine (both_ok hX hM tabOf_ok hm hN n).2 base ρ _ w (.fn r.f) r.xs us _ _ _ hw hl h fun v S' ρ' w' u g1 g2 g3 g4 g5 => ?_
  rw [asC_eq] at g1
  obtain ⟨ms, hms⟩ := matchK_some g1
  obtain ⟨ρ2, r1, r2, r3, r4⟩ := match_ok hw hms g2 g3 g4 g5
  exact ⟨ρ2, u, rfl, r1, r2, r3, r4⟩
end
end Go.Proofs.YtpllompnfhpfmaaGreatDoor.Exe
namespace Go.Proofs.YtpllompnfhpfmaaGreatDoor.Exe
open Go Go.Extern Go.Lib Go.RowKit

/-! ### Functions of Go's library: strings -/
noncomputable def on2 (xs : List AV) (k : AV → AV → R) : R := List.rec (motive := fun _ => R) none (fun a r _ => on1 r fun b => k a b) xs
theorem on2_some {xs : List AV} {k : AV → AV → R} {z : AV × Option AS} (h : on2 xs k = some z) : ∃ a b, xs = [a, b] ∧ k a b = some z := by
  match xs, h with
  | a :: r, h =>
    obtain ⟨b, rfl, h⟩ := on1_some (show on1 r (fun b => k a b) = some z from h)
    exact ⟨a, b, rfl, h⟩
/-- Where a byte first stands. -/
noncomputable def idxC (c : Nat) (l : List UInt8) : Nat → (Nat → R) → R → R :=
  List.rec (motive := fun _ => Nat → (Nat → R) → R → R) (fun _ _ no => no) (fun b _ ih i yes no => ifB (Nat.beq b.toNat c) (forceN i yes) (ih (Nat.succ i) yes no)) l
theorem idxC_some {c : UInt8} {z : AV × Option AS} : ∀ {l : List UInt8} {i : Nat} {yes : Nat → R} {no : R}, idxC c.toNat l i yes no = some z → (∃ j : Nat, indexByte l c = (j : Int) ∧ yes (i + j) = some z) ∨ (indexByte l c = -1 ∧ no = some z)
  | [], _, _, _, h => .inr ⟨rfl, h⟩
  | b :: l, i, yes, no, h => by
    have h : ifB (Nat.beq b.toNat c.toNat) (forceN i yes) (idxC c.toNat l (Nat.succ i) yes no) = some z := h
    rcases ifB_or h with ⟨h1, h2⟩ | ⟨h1, h2⟩
    · rw [forceN_eq] at h2
      have e : b = c := UInt8.toNat_inj.1 (beq_true h1)
      exact .inl ⟨0, by simp [indexByte, e], h2⟩
    · have e : (b == c) = false := by
        rw [beq_eq_false_iff_ne]
        intro e
        exact beq_false h1 (by rw [e])
      rcases idxC_some h2 with ⟨j, h3, h4⟩ | ⟨h3, h4⟩
      · refine .inl ⟨j + 1, ?_, by rwa [show i + (j + 1) = Nat.succ i + j by omega]⟩
        have hj : ((j : Int) == -1) = false := by rw [beq_eq_false_iff_ne]; omega
        simp only [indexByte, e, h3, hj, Bool.false_eq_true, if_false]
        omega
      · exact .inr ⟨by simp [indexByte, e, h3], h4⟩
/-- How often a byte stands. -/
noncomputable def cntC (c : Nat) (l : List UInt8) : Nat → (Nat → R) → R :=
  List.rec (motive := fun _ => Nat → (Nat → R) → R) (fun n k => k n) (fun b _ ih n k => ifB (Nat.beq b.toNat c) (forceN (Nat.succ n) fun n => ih n k) (ih n k)) l
theorem cntC_some {c : UInt8} {z : AV × Option AS} : ∀ {l : List UInt8} {n : Nat} {k : Nat → R}, cntC c.toNat l n k = some z → k (n + countByte l c) = some z
  | [], _, _, h => h
  | b :: l, n, k, h => by
    have h : ifB (Nat.beq b.toNat c.toNat) (forceN (Nat.succ n) fun n => cntC c.toNat l n k) (cntC c.toNat l n k) = some z := h
    unfold countByte
    rw [List.count_cons]
    rcases ifB_or h with ⟨h1, h2⟩ | ⟨h1, h2⟩
    · rw [forceN_eq] at h2
      have e : b = c := UInt8.toNat_inj.1 (beq_true h1)
      have := cntC_some h2
      unfold countByte at this
      rw [if_pos (by simp [e]), show n + (List.count c l + 1) = Nat.succ n + List.count c l by omega]
      exact this
    · have e : (b == c) = false := by
        rw [beq_eq_false_iff_ne]
        intro e
        exact beq_false h1 (by rw [e])
      have := cntC_some h2
      unfold countByte at this
      rw [if_neg (by simp [e])]
      exact this
noncomputable def byteI (v : AV) (k : Nat → R) : R := onInt v fun kd n => ifB (sameKind kd .u8) (onNatI n fun c => ifB (Nat.ble c 255) (k c) none) none
theorem byteI_some {v : AV} {k : Nat → R} {z : AV × Option AS} (h : byteI v k = some z) : ∃ c : UInt8, v = .int .u8 (c.toNat : Int) ∧ k c.toNat = some z := by
  obtain ⟨kd, n, e1, q1⟩ := onInt_some h
  obtain ⟨h1, q2⟩ := ifB_some q1
  obtain ⟨c, e2, q3⟩ := onNatI_some q2
  obtain ⟨h2, q4⟩ := ifB_some q3
  have h1 := kindNo_inj h1
  have h2 := ble_true h2
  have e : c.toUInt8.toNat = c := by simp; omega
  exact ⟨c.toUInt8, by rw [e1, e2, h1, e], by rw [e]; exact q4⟩
/-- bytealg.IndexByteString. -/
noncomputable def xIdx : XF := fun xs S k => on2 xs fun a b => onStr a fun s => byteI b fun c => idxC c s.data.toList 0 (fun i => k (.int .i64 (.ofNat i)) S) (k (.int .i64 (.negSucc 0)) S)
/-- bytealg.CountString. -/
noncomputable def xCnt : XF := fun xs S k => on2 xs fun a b => onStr a fun s => byteI b fun c => cntC c s.data.toList 0 fun i => k (.int .i64 (.ofNat i)) S

section
variable {Lg : Laid} {P : Program}
theorem toByte (c : UInt8) : ((c.toNat : Int)).toNat.toUInt8 = c := by simp
theorem xIdx_ok {g : Nat} (hg : Stands P g Extern.BytealgIndexByte.indexByte) : XOK Lg P g xIdx := by
  intro base ρ S w xs us k z hw hl h
  obtain ⟨a, b, e1, q1⟩ := on2_some h
  obtain ⟨s, e2, q2⟩ := onStr_some q1
  obtain ⟨c, e3, q3⟩ := byteI_some q2
  clear h q1 q2
  subst e3 e2 e1
  cases hl with
  | cons d hl =>
    cases hl with
    | cons d2 hl =>
      cases hl
      cases d
      cases d2
      have hr := run_indexByteString (P := P) s (c.toNat : Int) w
      rw [toByte] at hr
      rcases idxC_some q3 with ⟨j, h3, h4⟩ | ⟨h3, h4⟩
      · rw [Nat.zero_add] at h4
        refine ⟨_, _, ρ, w, _, h4, ρ.le_refl, .refl ρ S, hw, .int _ _, ?_⟩
        rw [hg]
        show ((Extern.BytealgIndexByte.indexByte #[.string s, .int .u8 (c.toNat : Int)]).run P w).andThen _ = _
        rw [hr, h3]
        rfl
      · refine ⟨_, _, ρ, w, _, h4, ρ.le_refl, .refl ρ S, hw, .int _ _, ?_⟩
        rw [hg]
        show ((Extern.BytealgIndexByte.indexByte #[.string s, .int .u8 (c.toNat : Int)]).run P w).andThen _ = _
        rw [hr, h3]
        rfl
theorem xCnt_ok {g : Nat} (hg : Stands P g Extern.BytealgCount.count) : XOK Lg P g xCnt := by
  intro base ρ S w xs us k z hw hl h
  obtain ⟨a, b, e1, q1⟩ := on2_some h
  obtain ⟨s, e2, q2⟩ := onStr_some q1
  obtain ⟨c, e3, q3⟩ := byteI_some q2
  clear h q1 q2
  subst e3 e2 e1
  cases hl with
  | cons d hl =>
    cases hl with
    | cons d2 hl =>
      cases hl
      cases d
      cases d2
      have hr := run_countString (P := P) s (c.toNat : Int) w
      rw [toByte] at hr
      have h4 := cntC_some q3
      rw [Nat.zero_add] at h4
      refine ⟨_, _, ρ, w, _, h4, ρ.le_refl, .refl ρ S, hw, .int _ _, ?_⟩
      rw [hg]
      show ((Extern.BytealgCount.count #[.string s, .int .u8 (c.toNat : Int)]).run P w).andThen _ = _
      rw [hr]
      rfl
end

/-! ### How many digits a number has -/
noncomputable def ndC (f : Nat) : Nat → Nat → (Nat → R) → R :=
  Nat.rec (motive := fun _ => Nat → Nat → (Nat → R) → R) (fun _ _ _ => none) (fun _ ih u n k => ifB (Nat.ble u 9) (forceN (Nat.succ n) k) (forceN (Nat.div u 10) fun u => forceN (Nat.succ n) fun n => ih u n k)) f
theorem ndC_some {z : AV × Option AS} : ∀ {f u n : Nat} {k : Nat → R}, ndC f u n k = some z → k (n + nDigits u) = some z
  | 0, _, _, _, h => by cases h
  | f + 1, u, n, k, h => by
    have h : ifB (Nat.ble u 9) (forceN (Nat.succ n) k) (forceN (Nat.div u 10) fun u => forceN (Nat.succ n) fun n => ndC f u n k) = some z := h
    rcases ifB_or h with ⟨h1, h2⟩ | ⟨h1, h2⟩
    · rw [forceN_eq] at h2
      have := ble_true h1
      rw [nDigits_small (by omega)]
      exact h2
    · rw [forceN_eq, forceN_eq] at h2
      have := ble_false h1
      rw [nDigits_big (by omega), show n + (nDigits (u / 10) + 1) = Nat.succ n + nDigits (u / 10) by omega]
      exact ndC_some h2
/-- internal/strconv.numDigits. -/
noncomputable def rfNum : RF := fun xs S k _ => on1 xs fun v => onInt v fun kd n => ifB (sameKind kd .u64) (onNatI n fun u => ifB (Nat.ble 1 u) (ifB (Nat.ble u 18446744073709551615) (ndC 25 u 0 fun d => k (.int .i64 (.ofNat d)) S) none) none) none
theorem rfNum_ok {Lg : Laid} {P : Program} {g : Nat} (hc : ∀ (w : World) (u : Nat), 1 ≤ u → u < 18446744073709551616 → Lg.In w → Calls P g #[.int .u64 u] w fun e w' => e = .returned (.int .i64 (nDigits u)) ∧ w' = w) (hf : ∃ fn, P.funcs[g]? = some fn ∧ fn.body.isNone = false) : RfOK Lg P g rfNum := by
  intro base ρ S w xs us k miss z R hw hx h hR
  obtain ⟨v, e1, q1⟩ := on1_some h
  obtain ⟨kd, n, e2, q2⟩ := onInt_some q1
  obtain ⟨h1, q3⟩ := ifB_some q2
  obtain ⟨u, e3, q4⟩ := onNatI_some q3
  obtain ⟨h2, q5⟩ := ifB_some q4
  obtain ⟨h3, q6⟩ := ifB_some q5
  have h1 := kindNo_inj h1
  have h2 := ble_true h2
  have h3 := ble_true h3
  clear h q1 q2 q3 q4 q5
  subst e3 e2 e1 h1
  cases hx with
  | cons d dn =>
    cases dn
    cases d
    have h := ndC_some q6
    rw [Nat.zero_add] at h
    refine .inr ⟨callsIn_wide.2 ((hc w u h2 (by omega) hw.laid).mono ?_), hf⟩
    rintro e w' ⟨rfl, rfl⟩
    exact hR _ _ ρ _ _ h ρ.le_refl (.refl ρ S) hw (.int _ _)

/-! ### strings.Join -/
noncomputable def appU (a b : List UInt8) : (List UInt8 → R) → R := List.rec (motive := fun _ => (List UInt8 → R) → R) (fun k => k b) (fun x _ ih k => ih fun r => k (x :: r)) a
theorem appU_eq : ∀ (a b : List UInt8) (k : List UInt8 → R), appU a b k = k (a ++ b)
  | [], _, _ => rfl
  | x :: a, b, k => appU_eq a b fun r => k (x :: r)
noncomputable def tailC (sep : List UInt8) (l : List AV) : (List UInt8 → R) → R :=
  List.rec (motive := fun _ => (List UInt8 → R) → R) (fun k => k []) (fun v _ ih k => onStr v fun s => ih fun r => appU s.data.toList r fun r => appU sep r k) l
noncomputable def joinC (sep : List UInt8) (l : List AV) (k : List UInt8 → R) : R :=
  List.rec (motive := fun _ => R) (k []) (fun v r _ => onStr v fun s => tailC sep r fun r => appU s.data.toList r k) l
theorem tailC_some {sep : List UInt8} {z : AV × Option AS} : ∀ {l : List AV} {k : List UInt8 → R}, tailC sep l k = some z → ∃ xs : List ByteArray, l = xs.map .str ∧ k (joinTail sep (xs.map (·.data.toList))) = some z
  | [], _, h => ⟨[], rfl, h⟩
  | v :: l, k, h => by
    obtain ⟨s, e1, q1⟩ := onStr_some (show onStr v (fun s => tailC sep l fun r => appU s.data.toList r fun r => appU sep r k) = some z from h)
    obtain ⟨xs, e2, q2⟩ := tailC_some q1
    rw [appU_eq, appU_eq] at q2
    refine ⟨s :: xs, by rw [e1, e2]; rfl, ?_⟩
    simp only [joinTail, List.map_cons, List.flatten_cons]
    rw [List.append_assoc]
    exact q2
theorem joinC_some {sep : List UInt8} {z : AV × Option AS} {l : List AV} {k : List UInt8 → R} (h : joinC sep l k = some z) : ∃ xs : List ByteArray, l = xs.map .str ∧ k (join (xs.map (·.data.toList)) sep) = some z := by
  cases l with
  | nil => exact ⟨[], rfl, h⟩
  | cons v l =>
    obtain ⟨s, e1, q1⟩ := onStr_some (show onStr v (fun s => tailC sep l fun r => appU s.data.toList r k) = some z from h)
    obtain ⟨xs, e2, q2⟩ := tailC_some q1
    rw [appU_eq] at q2
    exact ⟨s :: xs, by rw [e1, e2]; rfl, by rw [List.map_cons, join_cons]; exact q2⟩
theorem cells_strs {ρ : Rho} : ∀ {xs : List ByteArray} {us : List Value}, Cells ρ (xs.map .str) us → us = xs.map .string
  | [], _, .nil => rfl
  | x :: xs, _, h => by
    cases h with
    | one _ d h =>
      cases d
      rw [cells_strs h]
      rfl
noncomputable def rfJoin : RF := fun xs S k _ => on2 xs fun a b => onStr b fun sep => onSl a fun bb o n c _ => onCells S bb fun _ _ cs => onSome (segsK cs o n) fun l => ifB (Nat.ble n c) (ifB (Nat.ble n 140737488355328)
  (joinC sep.data.toList l fun r => ifB (Nat.ble r.length 140737488355328) (k (.str ⟨⟨r⟩⟩) S) none) none) none
theorem rfJoin_ok {Lg : Laid} {P : Program} {g : Nat} (hc : ∀ (bk o c : Nat) (xs : List ByteArray) (sep : ByteArray) (w : World), (∀ (j : Nat) x, xs[j]? = some x → w.cell? ⟨bk, o + j, none⟩ = some (.string x)) →
      bk < w.heap.size → xs.length ≤ 140737488355328 → xs.length ≤ c → (join (xs.map (·.data.toList)) sep.data.toList).length ≤ 140737488355328 →
      Calls P g #[.slice (some ⟨bk, o, none⟩) xs.length c, .string sep] w fun e w' => e = .returned (.string ⟨(join (xs.map (·.data.toList)) sep.data.toList).toArray⟩) ∧ Below w.heap.size w w')
    (hf : ∃ fn, P.funcs[g]? = some fn ∧ fn.body.isNone = false) : RfOK Lg P g rfJoin := by
  intro base ρ S w xs us k miss z R hw hx h hR
  obtain ⟨a, b, e1, q1⟩ := on2_some h
  obtain ⟨sep, e2, q2⟩ := onStr_some q1
  obtain ⟨bb, o, n, c, op, e3, q3⟩ := onSl_some q2
  obtain ⟨el, es, cs, hb, q4⟩ := onCells_some q3
  obtain ⟨l, hl, q5⟩ := onSome_some q4
  obtain ⟨h1, q6⟩ := ifB_some q5
  obtain ⟨h2, q7⟩ := ifB_some q6
  obtain ⟨ys, e4, q8⟩ := joinC_some q7
  obtain ⟨h3, q9⟩ := ifB_some q8
  clear h q1 q2 q3 q4 q5 q6 q7 q8
  subst e4 e3 e2 e1
  have h1 := ble_true h1
  have h2 := ble_true h2
  have h3 := ble_true h3
  cases hx with
  | cons d dn =>
    cases dn with
    | cons d2 dn =>
      cases dn
      cases d2
      have fin : ∀ {e : Ending} {w' : World}, e = .returned (.string ⟨(join (ys.map (·.data.toList)) sep.data.toList).toArray⟩) ∧ Below w.heap.size w w' → R e w' := by
        rintro e w' ⟨rfl, bel⟩
        exact hR _ _ ρ w' _ q9 ρ.le_refl (.refl ρ S) (hw.grown ⟨bel.block, bel.size, bel.os, bel.output, bel.tape⟩) (.str _)
      cases d with
      | @sl _ _ _ _ r x _ hρ =>
        obtain ⟨us, tail, fz, hh, hC, _, _⟩ := hw.cells hb hρ
        obtain ⟨hlen, hcl⟩ := segsK_some hC hl
        have hcl := cells_strs hcl
        have hxn : ys.length = n := by
          have := congrArg List.length hcl
          rw [List.length_take, List.length_drop, List.length_map] at this
          omega
        refine .inr ⟨callsIn_wide.2 ?_, hf⟩
        have := hc r o (if op = true then c + x else c) ys sep w (fun j y hj => ?_) (Array.getElem?_eq_some_iff.1 hh).1 (by omega) (by rw [hxn]; split <;> omega) h3
        · rw [hxn] at this
          exact this.mono fun e w' => fin
        · have hj' : j < n := by rw [← hxn]; exact (List.getElem?_eq_some_iff.1 hj).1
          have e1 : ((us.drop o).take n)[j]? = some (.string y) := by rw [hcl, List.getElem?_map, hj]; rfl
          rw [List.getElem?_take_of_lt hj', List.getElem?_drop] at e1
          refine cell?_of hh ?_
          rw [List.getElem?_append_left (by have := (List.getElem?_eq_some_iff.1 e1).1; exact this)]
          exact e1
      | @sl0 _ _ r x o' C hρ =>
        obtain ⟨us, tail, fz, hh, hC, _, _⟩ := hw.cells hb hρ
        obtain ⟨_, hcl⟩ := segsK_some hC hl
        have hcl := cells_strs hcl
        have hx0 : ys = [] := by
          have := congrArg List.length hcl
          simp at this
          exact List.length_eq_zero_iff.1 this.symm
        subst hx0
        refine .inr ⟨callsIn_wide.2 ?_, hf⟩
        exact (hc r o' C [] sep w (fun j y hj => by cases hj) (Array.getElem?_eq_some_iff.1 hh).1 (by simp) (by simp) h3).mono fun e w' => fin

/-! ### strings.Builder -/
noncomputable def sameP (v : AV) (b : Nat) : Bool := AV.rec (motive_1 := fun _ => Bool) (motive_2 := fun _ => Unit) (fun _ => false) (fun _ _ => false) (fun _ => false) false (fun c o => ifB (Nat.beq c b) (Nat.beq o 0) false) false (fun _ _ _ _ _ => false) false (fun _ => false) false (fun _ _ _ _ _ => false) false (fun _ _ _ => false) (fun _ _ => false) (fun _ _ => false) (fun _ _ => false) false (fun _ => false) false (fun _ _ => false) (fun _ => false) () (fun _ _ _ _ => ()) v
theorem sameP_some {v : AV} {b : Nat} (h : sameP v b = true) : v = .ptr b 0 := by
  cases v with
  | ptr c o =>
    obtain ⟨h1, h2⟩ := ifB_bool (show ifB (Nat.beq c b) (Nat.beq o 0) false = true from h)
    rw [beq_true h1, beq_true h2]
  | _ => exact Bool.noConfusion (show false = true from h)
/-- (*strings.Builder).copyCheck: T: the builder's type. -/
noncomputable def rfCopy (T : TypeId) : RF := fun xs S k _ => on1 xs fun v => onPtr v fun b o => ifB (Nat.beq o 0) (onCells S b fun e z cs => ifB (Nat.beq e T) (ifB (Nat.beq z 2) (on2 cs fun c0 c1 => ifB (isOne c0) (ifB (isOne c1)
  (ifB (Nat.beq (nilNo c0) 1) (k (.tup []) (putK S b (.cells e z [.ptr b 0, c1]))) (ifB (sameP c0 b) (k (.tup []) S) none)) none) none) none) none) none
theorem cells_two {ρ : Rho} {c0 c1 : AV} {us : List Value} (h : Cells ρ [c0, c1] us) (h0 : isOne c0 = true) (h1 : isOne c1 = true) : ∃ u0 u1, us = [u0, u1] ∧ Den ρ c0 u0 ∧ Den ρ c1 u1 := by
  cases h with
  | one _ d0 h =>
    cases h with
    | one _ d1 h => cases h; exact ⟨_, _, rfl, d0, d1⟩
    | bytes h => exact Bool.noConfusion (show false = true from h1)
  | bytes h => exact Bool.noConfusion (show false = true from h0)
theorem rfCopy_ok {Lg : Laid} {P : Program} {g : Nat} {T : TypeId}
    (hc : ∀ (b n : Nat) (w : World), w.cell? ⟨b, 0, none⟩ = some (.pointer none) → w.shape? b = some (T, 2 * (n + 1)) → w.frozen? ⟨b, 0, none⟩ = false → Calls P g #[.pointer (some ⟨b, 0, none⟩)] w fun e w' => e = .returned (.tuple #[]) ∧ w' = w.setCell ⟨b, 0, none⟩ (.pointer (some ⟨b, 0, none⟩)))
    (hu : ∀ (b : Nat) (w : World), w.cell? ⟨b, 0, none⟩ = some (.pointer (some ⟨b, 0, none⟩)) → Calls P g #[.pointer (some ⟨b, 0, none⟩)] w fun e w' => e = .returned (.tuple #[]) ∧ w' = w)
    (hf : ∃ fn, P.funcs[g]? = some fn ∧ fn.body.isNone = false) : RfOK Lg P g (rfCopy T) := by
  intro base ρ S w xs us k miss z R hw hx h hR
  obtain ⟨v, e1, q1⟩ := on1_some h
  obtain ⟨b, o, e2, q2⟩ := onPtr_some q1
  obtain ⟨h0, q3⟩ := ifB_some q2
  obtain ⟨e, zz, cs, hb, q4⟩ := onCells_some q3
  obtain ⟨h1, q5⟩ := ifB_some q4
  obtain ⟨h2, q6⟩ := ifB_some q5
  obtain ⟨c0, c1, e3, q7⟩ := on2_some q6
  obtain ⟨h3, q8⟩ := ifB_some q7
  obtain ⟨h4, q9⟩ := ifB_some q8
  have h0 := beq_true h0
  have h1 := beq_true h1
  have h2 := beq_true h2
  clear h q1 q2 q3 q4 q5 q6 q7 q8
  subst e3 e2 e1 h0 h1 h2
  cases hx with
  | cons d dn =>
    cases dn
    cases d with
    | @ptr _ _ r x hρ =>
      obtain ⟨us, tail, fz, hh, hC, ht, hfz⟩ := hw.cells hb hρ
      obtain ⟨u0, u1, rfl, d0, d1⟩ := cells_two hC h3 h4
      refine .inr ⟨?_, hf⟩
      rcases ifB_or q9 with ⟨k1, k2⟩ | ⟨k1, k2⟩
      · have k1 : c0 = .pnil := by
          have := beq_true k1
          cases c0 <;> first | rfl | (exact absurd (show (_ : Nat) = 1 from this) (by first | decide | (intro h; cases h)))
        subst k1
        cases d0
        refine callsIn_wide.2 ((hc r x w (cell?_of hh (by simp)) ?_ ?_).mono ?_)
        · simp only [World.shape?, hh]
          simp [ht]
          omega
        · have := hfz.free 0 (by simp; omega)
          simp only [World.frozen?, hh]
          simpa using this
        · rintro e w' ⟨rfl, rfl⟩
          refine hR _ _ ρ _ _ k2 ρ.le_refl (.put hρ) ?_ (.tup .nil)
          have hp := hw.put (u := .cells ([.pointer (some ⟨r, 0, none⟩), u1] ++ tail).toArray e fz) ⟨_, hb⟩ hρ (.cells (.one rfl (.ptr hρ) (.one h4 d1 .nil)) ht hfz)
          have he : w.setCell ⟨r, 0, none⟩ (.pointer (some ⟨r, 0, none⟩)) = w.putObj r (.cells ([.pointer (some ⟨r, 0, none⟩), u1] ++ tail).toArray e fz) := by
            unfold World.setCell World.putObj
            congr 1
            apply Array.ext_getElem?
            intro i
            rw [Array.getElem?_modify]
            by_cases hi : r = i
            · subst hi
              rw [if_pos rfl, hh, Array.getElem?_setIfInBounds_self_of_lt (Array.getElem?_eq_some_iff.1 hh).1]
              simp
            · rw [if_neg hi, Array.getElem?_setIfInBounds_ne hi]
          rw [he]
          exact hp
      · obtain ⟨k3, k4⟩ := ifB_some k2
        have k3 := sameP_some k3
        subst k3
        cases d0 with
        | ptr hρ0 =>
          rw [hρ] at hρ0
          cases hρ0
          refine callsIn_wide.2 ((hu r w (cell?_of hh (by simp))).mono ?_)
          rintro e w' ⟨rfl, rfl⟩
          exact hR _ _ ρ _ _ k4 ρ.le_refl (.refl ρ S) hw (.tup .nil)

/-- A block that stands for no object of ours any more may turn. -/
theorem WRel.turn {Lg : Laid} {base : Base Lg} {ρ : Rho} {S : AS} {w w' : World} (h : WRel base ρ S w) {b g x : Nat} (hg : ρ b = some (g, x)) (hfree : ∀ c y, S.live c → ρ c ≠ some (g, y)) (hs : w'.heap.size = w.heap.size) (hne : ∀ r, r ≠ g → w'.heap[r]? = w.heap[r]?)
    (h1 : w'.os = w.os) (h2 : w'.output = w.output) (h3 : w'.tape = w.tape) : WRel base ρ S w' :=
  { low := fun r hr ho => by
      rw [hne r (fun e => by subst e; exact (h.rng b r x hg).1.elim (fun g => by omega) ho)]
      exact h.low r hr ho
    size := by rw [hs]; exact h.size
    os := h1.trans h.os
    output := h2.trans h.output
    tape := h3.trans h.tape
    dom := h.dom
    rng := fun c r y e => by rw [hs]; exact h.rng c r y e
    inj := h.inj
    obj := fun c o r y hc e => by
      obtain ⟨u, hu, ho⟩ := h.obj c o r y hc e
      exact ⟨u, by rw [hne r (fun e2 => by subst e2; exact hfree c y ⟨_, hc⟩ e)]; exact hu, ho⟩ }
/-- A row's bytes, however they lie. -/
noncomputable def strC (l : List AV) : (List UInt8 → R) → R :=
  List.rec (motive := fun _ => (List UInt8 → R) → R) (fun k => k []) (fun c _ ih k => ifB (isOne c) (byteI c fun v => ih fun r => k (UInt8.ofNat v :: r)) (onBytes c fun m n => unpackC m n fun u => ih fun r => appU u r k)) l
theorem strC_some {ρ : Rho} {z : AV × Option AS} : ∀ {l : List AV} {us : List Value} {k : List UInt8 → R}, Cells ρ l us → strC l k = some z → ∃ L : List UInt8, us = L.map (fun b => Value.int .u8 (b.toNat : Int)) ∧ k L = some z
  | [], _, _, .nil, h => ⟨[], rfl, h⟩
  | c :: l, us, k, hc, h => by
    have h : ifB (isOne c) (byteI c fun v => strC l fun r => k (UInt8.ofNat v :: r)) (onBytes c fun m n => unpackC m n fun u => strC l fun r => appU u r k) = some z := h
    rcases ifB_or h with ⟨h1, h2⟩ | ⟨h1, h2⟩
    · obtain ⟨v, e1, h3⟩ := byteI_some h2
      subst e1
      cases hc with
      | one _ d hc =>
        cases d
        obtain ⟨L, e2, h4⟩ := strC_some hc h3
        refine ⟨v :: L, by rw [e2]; rfl, ?_⟩
        rw [UInt8.ofNat_toNat] at h4
        exact h4
    · obtain ⟨m, n, e1, h3⟩ := onBytes_some h2
      subst e1
      rw [unpackC_eq] at h3
      cases hc with
      | one o => exact Bool.noConfusion (show false = true from o)
      | bytes hc =>
        obtain ⟨L, e2, h4⟩ := strC_some hc h3
        rw [appU_eq] at h4
        refine ⟨unpackK m n ++ L, ?_, h4⟩
        rw [vals_unpack, e2, List.map_append]
/-- (*strings.Builder).String: T: the builder's type, U: the byte's. -/
noncomputable def rfStr (T U : TypeId) : RF := fun xs S k _ => on1 xs fun v => onPtr v fun b o => ifB (Nat.beq o 0) (onCells S b fun e _ cs => ifB (Nat.beq e T) (on2 cs fun c0 c1 => ifB (isOne c0) (ifB (isOne c1)
  (ifB (isSnil c1) (k (.str ⟨⟨[]⟩⟩) S) (onSl c1 fun b2 o2 n cap _ => ifB (Nat.beq o2 0) (ifB (Nat.ble 1 n) (ifB (Nat.ble n cap) (ifB (Nat.ble n 4611686018427387904) (onCells S b2 fun e2 z2 cs2 => ifB (Nat.beq e2 U) (ifB (Nat.beq z2 1) (onSome (segsK cs2 0 n) fun l =>
    strC l fun L => k (.str ⟨⟨L⟩⟩) (S.del b2)) none) none) none) none) none) none)) none) none) none) none
theorem rfStr_ok {Lg : Laid} {P : Program} {g : Nat} {T U : TypeId}
    (hn : ∀ (b : Nat) (w : World), w.cell? ⟨b, 1, none⟩ = some (.slice none 0 0) → Calls P g #[.pointer (some ⟨b, 0, none⟩)] w fun e w' => e = .returned (.string ⟨#[]⟩) ∧ w' = w.drew)
    (hs : ∀ (b q cap cells : Nat) (L : List UInt8) (w : World), w.cell? ⟨b, 1, none⟩ = some (.slice (some ⟨q, 0, none⟩) L.length cap) → L ≠ [] → L.length ≤ cap → L.length ≤ 4611686018427387904 → w.shape? q = some (U, cells) → L.length ≤ cells →
      (∀ (j : Nat) x, L[j]? = some x → w.cell? ⟨q, j, none⟩ = some (.int .u8 (x.toNat : Int))) → Calls P g #[.pointer (some ⟨b, 0, none⟩)] w fun e w' => e = .returned (.string ⟨L.toArray⟩) ∧ w' = w.drew.freeze ⟨q, 0, none⟩ L.length)
    (hf : ∃ fn, P.funcs[g]? = some fn ∧ fn.body.isNone = false) : RfOK Lg P g (rfStr T U) := by
  intro base ρ S w xs us k miss z R hw hx h hR
  obtain ⟨v, e1, q1⟩ := on1_some h
  obtain ⟨b, o, e2, q2⟩ := onPtr_some q1
  obtain ⟨h0, q3⟩ := ifB_some q2
  obtain ⟨e, zz, cs, hb, q4⟩ := onCells_some q3
  obtain ⟨h1, q5⟩ := ifB_some q4
  obtain ⟨c0, c1, e3, q7⟩ := on2_some q5
  obtain ⟨h3, q8⟩ := ifB_some q7
  obtain ⟨h4, q9⟩ := ifB_some q8
  have h0 := beq_true h0
  have h1 := beq_true h1
  clear h q1 q2 q3 q4 q5 q7 q8
  subst e3 e2 e1 h0 h1
  cases hx with
  | cons d dn =>
    cases dn
    cases d with
    | @ptr _ _ r x hρ =>
      obtain ⟨us, tail, fz, hh, hC, ht, hfz⟩ := hw.cells hb hρ
      obtain ⟨u0, u1, rfl, d0, d1⟩ := cells_two hC h3 h4
      have hcell : w.cell? ⟨r, 1, none⟩ = some u1 := cell?_of hh (by simp)
      refine .inr ⟨?_, hf⟩
      rcases ifB_or q9 with ⟨k1, k2⟩ | ⟨k1, k2⟩
      · have k1 := isSnil_true k1
        subst k1
        cases d1
        refine callsIn_wide.2 ((hn r w hcell).mono ?_)
        rintro e w' ⟨rfl, rfl⟩
        exact hR _ _ ρ _ _ k2 ρ.le_refl (.refl ρ S) hw.drew (.str _)
      · obtain ⟨b2, o2, n, cap, op, e4, q10⟩ := onSl_some k2
        obtain ⟨k3, q11⟩ := ifB_some q10
        obtain ⟨k4, q12⟩ := ifB_some q11
        obtain ⟨k5, q13⟩ := ifB_some q12
        obtain ⟨k6, q14⟩ := ifB_some q13
        obtain ⟨e2, z2, cs2, hb2, q15⟩ := onCells_some q14
        obtain ⟨k7, q16⟩ := ifB_some q15
        obtain ⟨k8, q17⟩ := ifB_some q16
        obtain ⟨l, hl, q18⟩ := onSome_some q17
        have k3 := beq_true k3
        have k4 := ble_true k4
        have k5 := ble_true k5
        have k6 := ble_true k6
        have k7 := beq_true k7
        have k8 := beq_true k8
        clear k2 q9 q10 q11 q12 q13 q14 q15 q16 q17
        subst e4 k3 k7 k8
        cases d1 with
        | sl0 => omega
        | @sl _ _ _ _ q y _ hρ2 =>
          obtain ⟨us2, tail2, fz2, hh2, hC2, ht2, hfz2⟩ := hw.cells hb2 hρ2
          obtain ⟨hlen, hcl⟩ := segsK_some hC2 hl
          obtain ⟨L, hL, q19⟩ := strC_some hcl q18
          have hlen : n ≤ us2.length := by omega
          rw [List.drop_zero] at hL
          have hLn : L.length = n := by
            have := congrArg List.length hL
            rw [List.length_take, List.length_map] at this
            omega
          subst hLn
          have hc := hs r q _ (us2 ++ tail2).length L w hcell (fun e => by subst e; simp at k4) (show L.length ≤ (if op = true then cap + y else cap) by split <;> omega) k6 (by simp [World.shape?, hh2]) (by rw [List.length_append]; omega) (fun j x hj => by
            have hj' : j < L.length := (List.getElem?_eq_some_iff.1 hj).1
            have e1 : (us2.take L.length)[j]? = some (.int .u8 (x.toNat : Int)) := by rw [hL, List.getElem?_map, hj]; rfl
            rw [List.getElem?_take_of_lt hj'] at e1
            refine cell?_of hh2 ?_
            rw [List.getElem?_append_left (by have := (List.getElem?_eq_some_iff.1 e1).1; exact this)]
            exact e1)
          refine callsIn_wide.2 (hc.mono ?_)
          rintro e w' ⟨rfl, rfl⟩
          refine hR _ _ ρ _ _ q19 ρ.le_refl (.del hρ2) ?_ (.str _)
          have hn0 : ¬ L.length = 0 := by omega
          unfold World.freeze
          rw [if_neg hn0]
          refine (hw.del b2).drew.turn hρ2 (fun c y2 hc2 e2 => ?_) (by simp) (fun r2 hr2 => by simp [Array.getElem?_modify, Ne.symm hr2]) rfl rfl rfl
          obtain ⟨hne, h2⟩ := AS.live_del hc2
          exact hne (hw.inj c b2 q y2 y h2 ⟨_, hb2⟩ e2 hρ2)
end Go.Proofs.YtpllompnfhpfmaaGreatDoor.Exe
