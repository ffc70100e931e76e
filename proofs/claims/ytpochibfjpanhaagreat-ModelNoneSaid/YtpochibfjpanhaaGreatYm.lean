/- A part of the machine that reckons a closed run, and of the proof that what it says the given program does. No conditions. -/
import Derived.Test.YtpochibfjpanhaaGreatYl
set_option linter.unusedVariables false
set_option linter.unusedSimpArgs false
namespace Go.Proofs.YtpochibfjpanhaaGreat.Exe
open Go
variable {base w : World} {P : Program} {ρ : Rho} {S : AS} {t : T} {o : Oper} {c : K} {z : AV × Option AS} {a : Act}
variable {ops : Array Oper} {anc : List Nat} {M N : Nat} {ρ0 : Rho} {S0 : AS} {L : Nat → Prop} {E F A V : Nat} {idf : Nat → Nat}

theorem Inv.chk (h : Inv base P ops anc M N ρ0 S0 L E F A V idf ρ S w t a) {i : Nat} {o : Oper} (ho : ops[i]? = some o) (hV : V.testBit i = true) {b : Bool}
    (hw : ∀ k, wantC (compOper P ops o).guard t k = k b) (hv : b = true → isVal (compOp P o) = true ∧ ∃ v S', nowK (compOp P o) t S = some (v, S') ∧ Holds o v t) :
    Inv base P ops anc M N ρ0 S0 L E (F ||| bitN i) A V idf ρ S w t a :=
  { h with
    fact := fun j o' ho' hj hL => by
      by_cases hji : j = i
      · subst hji
        rw [ho] at ho'
        cases ho'
        cases b with
        | true =>
          obtain ⟨h1, v, S', h2, h3⟩ := hv rfl
          exact .inl ⟨hV, hw, h1, v, h3, fun _ => ⟨S', h2⟩⟩
        | false =>
          rcases h.fact j o ho hj hL with ⟨_, q⟩ | q | q
          · exfalso
            have q1 := q.1 (fun b => if b = true then some (AV.pnil, S) else none)
            rw [hw] at q1
            cases q1
          · exact .inr (.inl q)
          · exact .inr (.inr q)
      · rcases h.fact j o' ho' hj hL with ⟨e1, e2⟩ | e | e
        · rw [bit_ne hji]; exact .inl ⟨e1, e2⟩
        · exact .inr (.inl e)
        · exact .inr (.inr e) }

theorem as_get (i : Nat) : ((ops.toList.map (compOper P ops))[i]?) = (ops[i]?).map (compOper P ops) := by simp
theorem blt_lt {a b : Nat} (h : Nat.blt a b = true) : a < b := ble_true h

/-- Our run up to the next one of kind 2. -/
theorem stage {cl : Cl} {k : KL} (hd : DrawnOk P ops anc M N) : ∀ (res : List (Nat × Nat)) (E F V : Nat) (idf : Nat → Nat) (S : AS) (t : T), Inv base P ops anc M N ρ0 S0 L E F A V idf ρ S w t a → runL (compW (ops.toList.map (compOper P ops)) res) cl t S k = some z → chkL (ops.toList.map (compOper P ops)) anc M res E F A V = true →
    ∃ res' E' F' V' idf' S' t', Inv base P ops anc M N ρ0 S0 L E' F' A V' idf' ρ S' w t' a ∧ runL (compW (ops.toList.map (compOper P ops)) res') cl t' S' k = some z ∧ chkL (ops.toList.map (compOper P ops)) anc M res' E' F' A V' = true ∧ (res' = [] ∨ ∃ p r, res' = (2, p) :: r)
  | [], E, F, V, idf, S, t, h, hr, hc => ⟨[], E, F, V, idf, S, t, h, hr, hc, .inl rfl⟩
  | (kd, i) :: r, E, F, V, idf, S, t, h, hr, hc => by
    cases ho : ops[i]? with
    | none => unfold chkL at hc; rw [as_get, ho] at hc; cases hc
    | some o =>
      have hget := as_get (P := P) (ops := ops) i
      rw [ho] at hget
      have hget : ((ops.toList.map (compOper P ops))[i]?) = some (compOper P ops o) := hget
      match kd with
      | 2 => exact ⟨(2, i) :: r, E, F, V, idf, S, t, h, hr, hc, .inr ⟨i, r, rfl⟩⟩
      | 3 =>
        unfold chkL at hc
        rw [hget] at hc
        simp only [Bool.and_eq_true] at hc
        obtain ⟨⟨hV, hval⟩, hc⟩ := hc
        unfold compW at hr
        rw [hget] at hr
        have hr : wantC (compOper P ops o).guard t (fun b => ifB b (onSome (nowK (compOp P o) t S) fun p => ifB (sameD (o.dst.map pathOf) p.1 t) (runL (compW (ops.toList.map (compOper P ops)) r) cl t S k) none) (runL (compW (ops.toList.map (compOper P ops)) r) cl t S k)) = some z := hr
        obtain ⟨b, hb, hw⟩ := wantC_cases hr
        cases b with
        | true =>
          obtain ⟨p, hp, hb⟩ := onSome_some (show onSome (nowK (compOp P o) t S) (fun p => ifB (sameD (o.dst.map pathOf) p.1 t) (runL (compW (ops.toList.map (compOper P ops)) r) cl t S k) none) = some z from hb)
          obtain ⟨hs, hb⟩ := ifB_some hb
          have hh : Holds o p.1 t := fun d hd => sameD_true hs (pathOf d) (by rw [hd]; rfl)
          exact stage hd r E (F ||| bitN i) V idf S t (h.chk ho hV hw fun _ => ⟨hval, p.1, p.2, hp, hh⟩) hb hc
        | false => exact stage hd r E (F ||| bitN i) V idf S t (h.chk ho hV hw fun h => by cases h) hb hc
      | 0 =>
        unfold chkL at hc
        rw [hget] at hc
        simp only [Bool.and_eq_true, Bool.not_eq_true'] at hc
        obtain ⟨⟨hE, hanc⟩, ⟨hval, hM⟩, hc⟩ := hc
        unfold compW at hr
        rw [hget] at hr
        have hr : wantC (compOper P ops o).guard t (fun b => ifB b (onSome (nowK (compOp P o) t S) fun p => runL (compW (ops.toList.map (compOper P ops)) r) cl (putT (o.dst.map pathOf) p.1 t) S k) (runL (compW (ops.toList.map (compOper P ops)) r) cl (putT (o.dst.map pathOf) (.tup []) t) S k)) = some z := (lVal_eq _ (compW (ops.toList.map (compOper P ops)) r) _ _ _ _ _).symm.trans hr
        obtain ⟨b, hb, hw⟩ := wantC_cases hr
        cases b with
        | true =>
          obtain ⟨p, hp, hb⟩ := onSome_some (show onSome (nowK (compOp P o) t S) (fun p => runL (compW (ops.toList.map (compOper P ops)) r) cl (putT (o.dst.map pathOf) p.1 t) S k) = some z from hb)
          exact stage hd r _ _ _ idf S _ (h.val hd ho hE (fun j hj => subN_test hanc hj) hM hw (fun _ => ⟨hval, p.2, hp⟩) (fun h => by cases h)) hb hc
        | false => exact stage hd r _ _ _ idf S _ (h.val hd ho hE (fun j hj => subN_test hanc hj) hM hw (fun h => by cases h) (fun _ => rfl)) hb hc
      | 1 =>
        unfold chkL at hc
        rw [hget] at hc
        simp only [Bool.and_eq_true, Bool.not_eq_true'] at hc
        obtain ⟨⟨hE, hanc⟩, ⟨hmk, hM⟩, hc⟩ := hc
        have hmk : isMk (compOp P o) = true := hmk
        unfold compW at hr
        rw [hget] at hr
        have hr : wantC (compOper P ops o).guard t (fun b => ifB b (stepC (compOp P o) cl t S fun v S => runL (compW (ops.toList.map (compOper P ops)) r) cl (putT (o.dst.map pathOf) v t) S k) (runL (compW (ops.toList.map (compOper P ops)) r) cl (putT (o.dst.map pathOf) (.tup []) t) S k)) = some z := (lGen_eq _ (compW (ops.toList.map (compOper P ops)) r) _ _ _ _ _).symm.trans hr
        obtain ⟨b, hb, hw⟩ := wantC_cases hr
        cases b with
        | true =>
          have hb : stepC (compOp P o) cl t S (fun v S => runL (compW (ops.toList.map (compOper P ops)) r) cl (putT (o.dst.map pathOf) v t) S k) = some z := hb
          have hx := compOp_some hb
          have hnc : isCall (compOp P o) = false := by
            cases hq : isCall (compOp P o) with
            | false => rfl
            | true => rw [(isCall_class hq).2] at hmk; cases hmk
          rw [stepC_plain hnc] at hb
          rcases sound_of hx with ⟨h1, _⟩ | ⟨_, _, h1⟩ | ⟨_, h1, _⟩
          · rw [val_not_mk h1] at hmk; cases hmk
          · obtain ⟨ob, vf, heq, _⟩ := h1 t S _ z hb
            rw [heq] at hb
            have hb := newK_some hb
            exact stage hd r _ _ _ _ _ _ (h.mk' hd ho hE (fun j hj => subN_test hanc hj) hM hw hmk heq) hb hc
          · rw [h1] at hmk; cases hmk
        | false => exact stage hd r _ _ _ idf S _ (h.mkSkip hd ho hE (fun j hj => subN_test hanc hj) hM hw) hb hc
      | n + 4 =>
        unfold chkL at hc
        rw [hget] at hc
        simp at hc

/-- One that our run has carried out comes up. -/
theorem Inv.come (h : Inv base P ops anc M N ρ0 S0 L E F A V idf ρ S w t a) {i : Nat} {o : Oper} (ho : ops[i]? = some o) (hE : E.testBit i = true) (hanc : ∀ j, Anc anc i j → L j) (hN : ∀ d, o.dst = some d → d < N) {ρ' : Rho} {w' : World} {v : AV} {u : Value} (hh : Holds o v t) (hle : ρ.le ρ') (hk : Keep ρ0 ρ' S0 S) (hw : WRel base ρ' S w') (hv : Den ρ' v u)
    (hids : ∀ j o', ops[j]? = some o' → E.testBit j = true → ¬ L j → j ≠ i → MkAt P ops o' t S (idf j) → ρ (idf j) = none → ρ' (idf j) = none) :
    Inv base P ops anc M N ρ0 S0 (fun j => L j ∨ j = i) E F A V idf ρ' S w' t (a.put o.dst u) :=
  { world := hw, le := Rho.le_trans h.le hle, keep := hk, defers := by rw [put_defers]; exact h.defers.mono hle, size := by rw [put_size]; exact h.size,
    den := fun n hn => by
      by_cases hdn : o.dst = some n
      · rw [hh n hdn, hdn]
        have e2 : (a.put (some n) u).tmps.getD n undef = u := by
          show (a.tmps.setIfInBounds n u).getD n undef = u
          have := hN n hdn
          rw [← h.size] at this
          simp [Array.getD, this]
        rw [e2]
        exact hv
      · have e2 : (a.put o.dst u).tmps.getD n undef = a.tmps.getD n undef := by
          cases hd : o.dst with
          | none => rfl
          | some m =>
            show (a.tmps.setIfInBounds m u).getD n undef = _
            rw [Array.getD_eq_getD_getElem?, Array.getD_eq_getD_getElem?, Array.getElem?_setIfInBounds_ne (fun e => hdn (by rw [hd, e]))]
        rw [e2]
        refine (h.den n fun j o' ho' hd' hj => ?_).mono hle
        rcases hn j o' ho' hd' hj with h1 | h1
        · exact h1
        · subst h1
          rw [ho] at ho'
          cases ho'
          exact absurd hd' hdn,
    sub := fun j hj => by
      rcases hj with hj | rfl
      · exact h.sub j hj
      · exact hE,
    main := fun j hj hL => h.main j hj fun h => hL (.inl h),
    ancL := fun j hj m hm => by
      rcases hj with hj | rfl
      · exact .inl (h.ancL j hj m hm)
      · exact .inl (hanc m hm),
    ancE := h.ancE, inA := fun j hj => .inl (h.inA j hj), vE := h.vE,
    fact := fun j o' ho' hj hL => by
      have hL1 : ¬ L j := fun h => hL (.inl h)
      rcases h.fact j o' ho' hj hL1 with h1 | h1 | ⟨h1, h2, h3⟩
      · exact .inl h1
      · exact .inr (.inl h1)
      · exact .inr (.inr ⟨h1, hids j o' ho' hj hL1 (fun e => hL (.inr e)) h1 h2, h3⟩),
    ids := fun j1 j2 o1 o2 ho1 ho2 hj1 hL1 hj2 hL2 => h.ids j1 j2 o1 o2 ho1 ho2 hj1 (fun h => hL1 (.inl h)) hj2 (fun h => hL2 (.inl h)) }

/-- One of kind 2 comes up, and our run carries it out. -/
theorem Inv.mainStep (hd : DrawnOk P ops anc M N) (h : Inv base P ops anc M N ρ0 S0 L E F A V idf ρ S w t a) {i : Nat} {o : Oper} (ho : ops[i]? = some o) (hE : E.testBit i = false) (hanc : ∀ j, Anc anc i j → L j) {ρ' : Rho} {S' : AS} {w' : World} {v : AV} {u : Value} (hle : ρ.le ρ') (hk : Keep ρ ρ' S S') (hw : WRel base ρ' S' w') (hv : Den ρ' v u) :
    Inv base P ops anc M N ρ0 S0 (fun j => L j ∨ j = i) (E ||| bitN i) 0 (anc.getD i 0 ||| bitN i) V idf ρ' S' w' (putT (o.dst.map pathOf) v t) (a.put o.dst u) := by
  have hN : ∀ d, o.dst = some d → d < N := fun d => hd.tmps i o d ho
  have hfr := fun {j : Nat} {o' : Oper} (ho' : ops[j]? = some o') (hj : E.testBit j = true) (hL : ¬ L j) => h.frame hd ho hE (fun _ => hanc) v ho' hj hL
  have hold : ∀ {j}, (E ||| bitN i).testBit j = true → ¬ (L j ∨ j = i) → E.testBit j = true ∧ ¬ L j := fun hj hL => ⟨(bit_cases hj).resolve_right fun e => hL (.inr e), fun h => hL (.inl h)⟩
  refine { world := hw, le := Rho.le_trans h.le hle, keep := h.keep.trans hk, defers := by rw [put_defers, off_putT]; exact h.defers.mono hle, size := by rw [put_size]; exact h.size, den := fun n hn => ?_, sub := fun j hj => ?_, main := fun j hj hL => ?_, ancL := fun j hj m hm => ?_, ancE := fun j hj m hm => ?_, inA := fun j hj => ?_, vE := fun j hj => bit_old (h.vE j hj), fact := fun j o' ho' hj hL => ?_, ids := fun j1 j2 o1 o2 ho1 ho2 hj1 hL1 hj2 hL2 hm1 hm2 he => ?_ }
  · by_cases hdn : o.dst = some n
    · rw [hdn]
      have e2 : (a.put (some n) u).tmps.getD n undef = u := by
        show (a.tmps.setIfInBounds n u).getD n undef = u
        have := hN n hdn
        rw [← h.size] at this
        simp [Array.getD, this]
      rw [e2]
      show Den ρ' (evTmp (pathOf n) (T.setP v (pathOf n) t)) u
      rw [evTmp_put]
      exact hv
    · have e2 : (a.put o.dst u).tmps.getD n undef = a.tmps.getD n undef := by
        cases hd : o.dst with
        | none => rfl
        | some m =>
          show (a.tmps.setIfInBounds m u).getD n undef = _
          rw [Array.getD_eq_getD_getElem?, Array.getD_eq_getD_getElem?, Array.getElem?_setIfInBounds_ne (fun e => hdn (by rw [hd, e]))]
      rw [e2, putT_ne hdn]
      refine (h.den n fun j o' ho' hd' hj => ?_).mono hle
      rcases hn j o' ho' hd' (bit_old hj) with h1 | h1
      · exact h1
      · subst h1
        rw [hj] at hE
        cases hE
  · rcases hj with hj | rfl
    · exact bit_old (h.sub j hj)
    · exact bit_self _ _
  · exact h.main j (hold hj hL).1 (hold hj hL).2
  · rcases hj with hj | rfl
    · exact .inl (h.ancL j hj m hm)
    · exact .inl (hanc m hm)
  · rcases bit_cases hj with hj | rfl
    · exact bit_old (h.ancE j hj m hm)
    · exact bit_old (h.sub m (hanc m hm))
  · rcases bit_cases hj with hj | rfl
    · exact .inl (hanc j hj)
    · exact .inr rfl
  · obtain ⟨hj, hL⟩ := hold hj hL
    obtain ⟨f1, f2⟩ := hfr ho' hj hL
    rcases h.fact j o' ho' hj hL with ⟨h1, h2⟩ | h1 | ⟨h1, h2, h3⟩
    · exact .inl ⟨h1, h2.agree f1 f2 fun h => by rw [zero_test] at h; cases h⟩
    · exact .inr (.inl (h1.agree f1 f2))
    · have hid : idf j < S.next := by obtain ⟨_, _, _, _, _, _, h5, _⟩ := h1; exact h5
      obtain ⟨k1, k2⟩ := hk.2 _ hid h2
      exact .inr (.inr ⟨h1.agree f1 f2 hk.1 (fun x hx => k2 x hx), k1, h3⟩)
  · obtain ⟨hj1, hL1⟩ := hold hj1 hL1
    obtain ⟨hj2, hL2⟩ := hold hj2 hL2
    have key : ∀ {j : Nat} {o' : Oper}, ops[j]? = some o' → E.testBit j = true → ¬ L j → MkAt P ops o' (putT (o.dst.map pathOf) v t) S' (idf j) → MkAt P ops o' t S (idf j) := by
      intro j o' ho' hj hL hm
      obtain ⟨f1, f2⟩ := hfr ho' hj hL
      rcases h.fact j o' ho' hj hL with ⟨_, h2⟩ | h1 | ⟨h1, _, _⟩
      · exfalso
        have h3 := hm.2.1
        rw [val_not_mk h2.2.1] at h3
        cases h3
      · exfalso
        have e1 := hm.1 (fun b => if b = true then some (AV.pnil, S) else none)
        have e2 := (h1.agree f1 f2).1 (fun b => if b = true then some (AV.pnil, S) else none)
        rw [e1] at e2
        cases e2
      · exact h1
    exact h.ids j1 j2 o1 o2 ho1 ho2 hj1 hL1 hj2 hL2 (key ho1 hj1 hL1 hm1) (key ho2 hj2 hL2 hm2) he
end Go.Proofs.YtpochibfjpanhaaGreat.Exe
