/- A part of the machine that reckons a closed run, and of the proof that what it says the given program does. No conditions. -/
import Derived.Test.YtpochibfjpanhaaGreatYk
set_option linter.unusedVariables false
set_option linter.unusedSimpArgs false
namespace Go.Proofs.YtpochibfjpanhaaGreat.Exe
open Go
variable {base w : World} {P : Program} {ρ : Rho} {S : AS} {t : T} {o : Oper} {c : K} {z : AV × Option AS} {a : Act}

/-! ### Objects ahead of the world's, and behind -/
theorem WRel.ahead (h : WRel base ρ S w) (o : AObj) : WRel base ρ { heap := S.heap.setK (some o) S.next, next := Nat.succ S.next } w := by
  have hne : ∀ {b r}, ρ b = some r → b ≠ S.next := fun hb e => by subst e; rw [h.dom _ (Nat.le_refl _)] at hb; cases hb
  have hlive : ∀ {b r}, ρ b = some r → AS.live { heap := S.heap.setK (some o) S.next, next := Nat.succ S.next } b → S.live b := fun hb hl => by
    obtain ⟨ob, hl⟩ := hl
    rcases HT.getK_setK _ _ _ hl with ⟨e, _⟩ | ⟨_, g⟩
    · exact absurd e (hne hb)
    · exact ⟨_, g⟩
  exact { low := h.low, size := h.size, os := h.os, output := h.output, tape := h.tape, dom := fun b hb => h.dom b (by have hb : S.next + 1 ≤ b := hb; omega), rng := h.rng,
          inj := fun b c r x y hb hc eb ec => h.inj b c r x y (hlive eb hb) (hlive ec hc) eb ec,
          obj := fun b o' r x hb e => by
            rcases HT.getK_setK _ _ _ hb with ⟨e', _⟩ | ⟨_, g⟩
            · exact absurd e' (hne e)
            · exact h.obj b o' r x g e }
theorem Keep.ahead {ρ : Rho} {S : AS} {o : AObj} : Keep ρ ρ S { heap := S.heap.setK (some o) S.next, next := Nat.succ S.next } :=
  ⟨Nat.le_succ _, fun c hc ec => ⟨ec, fun o' ho => by
    rcases HT.getK_setK _ _ _ ho with ⟨h1, _⟩ | ⟨_, g⟩
    · omega
    · exact g⟩⟩

/-- An object that stands in our state already comes to be in the world. -/
theorem WRel.late (h : WRel base ρ S w) {id x : Nat} {ob : AObj} {u : Obj} (hid : id < S.next) (hn : ρ id = none) (hob : ∀ ob', S.heap.getK id = some ob' → ob' = ob) (hu : ∀ ρ' : Rho, ρ.le ρ' → ORel ρ' x ob u) :
    WRel base (ρ.add id (w.heap.size, x)) S (w.alloc u) := by
  have hle : ρ.le (ρ.add id (w.heap.size, x)) := Rho.le_add hn
  have hs : (w.alloc u).heap.size = w.heap.size + 1 := by show (w.heap.push u).size = _; simp
  have hold : ∀ r, r < w.heap.size → (w.alloc u).heap[r]? = w.heap[r]? := fun r hr => by show (w.heap.push u)[r]? = _; rw [Array.getElem?_push, if_neg (by omega)]
  refine { low := fun r hr => by rw [hold r (by have := h.size; omega)]; exact h.low r hr, size := by rw [hs]; have := h.size; omega, os := h.os, output := h.output, tape := h.tape, dom := fun b hb => ?_, rng := fun b r y e => ?_, inj := fun b c r y z hb hc eb ec => ?_, obj := fun b o' r y hb e => ?_ }
  · unfold Rho.add
    rw [if_neg (by omega)]
    exact h.dom b hb
  · rw [hs]
    unfold Rho.add at e
    by_cases hc : b = id
    · rw [if_pos hc] at e; cases e; have := h.size; omega
    · rw [if_neg hc] at e; have := h.rng _ _ _ e; omega
  · unfold Rho.add at eb ec
    by_cases h1 : b = id <;> by_cases h2 : c = id
    · omega
    · rw [if_pos h1] at eb; rw [if_neg h2] at ec; cases eb; have := (h.rng _ _ _ ec).2; omega
    · rw [if_neg h1] at eb; rw [if_pos h2] at ec; cases ec; have := (h.rng _ _ _ eb).2; omega
    · rw [if_neg h1] at eb; rw [if_neg h2] at ec
      exact h.inj b c r y z hb hc eb ec
  · unfold Rho.add at e
    by_cases h1 : b = id
    · rw [if_pos h1] at e
      cases e
      subst h1
      exact ⟨u, by show (w.heap.push u)[w.heap.size]? = _; simp, by rw [hob _ hb]; exact hu _ hle⟩
    · rw [if_neg h1] at e
      obtain ⟨v, hv, hr⟩ := h.obj b o' r y hb e
      exact ⟨v, by rw [hold r (h.rng _ _ _ e).2]; exact hv, hr.mono hle⟩

theorem val_not_mk {x : AO} (h : isVal x = true) : isMk x = false := by cases x <;> first | rfl | cases h

/-! ### A region whose order is drawn -/
def Anc (anc : List Nat) (i j : Nat) : Prop := (anc.getD i 0).testBit j = true
structure DrawnOk (P : Program) (ops : Array Oper) (anc : List Nat) (M N : Nat) : Prop where
  edges : ∀ (i : Nat) (o : Oper), ops[i]? = some o → ∀ e ∈ o.after, Region.binds .any e = true → e.on < i
  must : ∀ (i : Nat) (o : Oper), ops[i]? = some o → ∀ j, Anc anc i j → ∃ e ∈ o.after, Region.binds .any e = true ∧ (j = e.on ∨ Anc anc e.on j)
  reads : ∀ (i j : Nat) (o o' : Oper) (d : Nat), ops[i]? = some o → ops[j]? = some o' → o'.dst = some d → d ∈ looksA (compOper P ops o) → Anc anc i j ∨ (M.testBit j = true ∧ (i = j ∨ Anc anc j i))
  dsts : ∀ (i j : Nat) (o o' : Oper) (d : Nat), ops[i]? = some o → ops[j]? = some o' → i ≠ j → o.dst = some d → o'.dst = some d → (M.testBit j = true ∧ Anc anc j i) ∨ (M.testBit i = true ∧ Anc anc i j)
  tmps : ∀ (i : Nat) (o : Oper) (d : Nat), ops[i]? = some o → o.dst = some d → d < N

section
variable (P) (ops : Array Oper)
/-- What stands in an operation's temporary. -/
def Holds (o : Oper) (v : AV) (t : T) : Prop := ∀ d, o.dst = some d → evTmp (pathOf d) t = v
def ValAt (o : Oper) (t : T) (S : AS) (now : Prop) : Prop :=
  (∀ k, wantC (compOper P ops o).guard t k = k true) ∧ isVal (compOp P o) = true ∧ ∃ v, Holds o v t ∧ (now → ∃ S', nowK (compOp P o) t S = some (v, S'))
def SkipAt (o : Oper) (t : T) : Prop := (∀ k, wantC (compOper P ops o).guard t k = k false) ∧ Holds o (.tup []) t
def MkAt (o : Oper) (t : T) (S : AS) (id : Nat) : Prop :=
  (∀ k, wantC (compOper P ops o).guard t k = k true) ∧ isMk (compOp P o) = true ∧ ∃ (ob : AObj) (vf : Nat → AV), (∀ S c, opK (compOp P o) t S c = newK S ob fun b S => c (vf b) S) ∧ Holds o (vf id) t ∧ id < S.next ∧ ∀ ob', S.heap.getK id = some ob' → ob' = ob
end

variable {ops : Array Oper}
theorem Holds.agree {o : Oper} {v : AV} {t t' : T} (h : Holds o v t) (hd : ∀ d, o.dst = some d → evTmp (pathOf d) t = evTmp (pathOf d) t') : Holds o v t' := fun d hd' => by rw [← hd d hd']; exact h d hd'
theorem ValAt.agree {o : Oper} {t t' : T} {S S' : AS} {now now' : Prop} (h : ValAt P ops o t S now) (ha : Agree (compOper P ops o) t t') (hd : ∀ d, o.dst = some d → evTmp (pathOf d) t = evTmp (pathOf d) t') (hnow : now' → now ∧ S' = S) : ValAt P ops o t' S' now' := by
  obtain ⟨h1, h2, v, h3, h4⟩ := h
  refine ⟨fun k => by rw [← ha.want]; exact h1 k, h2, v, h3.agree hd, fun hn => ?_⟩
  obtain ⟨hn, rfl⟩ := hnow hn
  obtain ⟨S2, h5⟩ := h4 hn
  exact ⟨S2, by rw [← h5]; exact (opK_congr _ ha.args _ _).symm⟩
theorem SkipAt.agree {o : Oper} {t t' : T} (h : SkipAt P ops o t) (ha : Agree (compOper P ops o) t t') (hd : ∀ d, o.dst = some d → evTmp (pathOf d) t = evTmp (pathOf d) t') : SkipAt P ops o t' :=
  ⟨fun k => by rw [← ha.want]; exact h.1 k, h.2.agree hd⟩
theorem MkAt.agree {o : Oper} {t t' : T} {S S' : AS} {id : Nat} (h : MkAt P ops o t S id) (ha : Agree (compOper P ops o) t t') (hd : ∀ d, o.dst = some d → evTmp (pathOf d) t = evTmp (pathOf d) t') (hS : S.next ≤ S'.next) (hh : ∀ x, S'.heap.getK id = some x → S.heap.getK id = some x) : MkAt P ops o t' S' id := by
  obtain ⟨h1, h2, ob, vf, h3, h4, h5, h6⟩ := h
  exact ⟨fun k => by rw [← ha.want]; exact h1 k, h2, ob, vf, fun S c => by rw [← h3]; exact (opK_congr _ ha.args _ _).symm, h4.agree hd, Nat.lt_of_lt_of_le h5 hS, fun ob' h => h6 ob' (hh ob' h)⟩

/-- What holds while a region goes on: 'L': what has come up; 'E': what our run has carried out. -/
structure Inv (base : World) (P : Program) (ops : Array Oper) (anc : List Nat) (M N : Nat) (ρ0 : Rho) (S0 : AS) (L : Nat → Prop) (E F A V : Nat) (idf : Nat → Nat) (ρ : Rho) (S : AS) (w : World) (t : T) (a : Act) : Prop where
  world : WRel base ρ S w
  le : ρ0.le ρ
  keep : Keep ρ0 ρ S0 S
  defers : DfRel ρ t.off a.defers
  size : a.tmps.size = N
  den : ∀ n, (∀ (i : Nat) (o : Oper), ops[i]? = some o → o.dst = some n → E.testBit i = true → L i) → Den ρ (evTmp (pathOf n) t) (a.tmps.getD n undef)
  sub : ∀ i, L i → E.testBit i = true
  main : ∀ i, E.testBit i = true → ¬ L i → M.testBit i = false
  ancL : ∀ i, L i → ∀ j, Anc anc i j → L j
  ancE : ∀ i, E.testBit i = true → ∀ j, Anc anc i j → E.testBit j = true
  inA : ∀ j, A.testBit j = true → L j
  vE : ∀ i, V.testBit i = true → E.testBit i = true
  fact : ∀ (i : Nat) (o : Oper), ops[i]? = some o → E.testBit i = true → ¬ L i → (V.testBit i = true ∧ ValAt P ops o t S (F.testBit i = true)) ∨ SkipAt P ops o t ∨ (MkAt P ops o t S (idf i) ∧ ρ (idf i) = none ∧ S0.next ≤ idf i)
  ids : ∀ (i j : Nat) (o o' : Oper), ops[i]? = some o → ops[j]? = some o' → E.testBit i = true → ¬ L i → E.testBit j = true → ¬ L j → MkAt P ops o t S (idf i) → MkAt P ops o' t S (idf j) → idf i = idf j → i = j

theorem evTmp_put_ne {n m : Nat} (h : n ≠ m) (v : AV) (t : T) : evTmp (pathOf n) (T.setP v (pathOf m) t) = evTmp (pathOf n) t := get_setP_ne v (fun e => h (pathOf_inj e)) t
theorem evTmp_put (n : Nat) (v : AV) (t : T) : evTmp (pathOf n) (T.setP v (pathOf n) t) = v := get_setP v _ t
theorem putT_ne {d : Option Nat} {n : Nat} (h : d ≠ some n) (v : AV) (t : T) : evTmp (pathOf n) (putT (d.map pathOf) v t) = evTmp (pathOf n) t := by
  cases d with
  | none => rfl
  | some m => exact evTmp_put_ne (fun e => h (by rw [e])) v t
theorem putT_holds (o : Oper) (v : AV) (t : T) : Holds o v (putT (o.dst.map pathOf) v t) := fun d hd => by
  rw [hd]; exact evTmp_put d v t

section
variable {anc : List Nat} {M N : Nat} {ρ0 : Rho} {S0 : AS} {L : Nat → Prop} {E F A V : Nat} {idf : Nat → Nat}

/-- Who has not come up is not touched by who is carried out now. -/
theorem Inv.frame (hd : DrawnOk P ops anc M N) (h : Inv base P ops anc M N ρ0 S0 L E F A V idf ρ S w t a) {i : Nat} {o : Oper} (ho : ops[i]? = some o) (hE : E.testBit i = false) (hlast : M.testBit i = true → ∀ j, Anc anc i j → L j) (v : AV)
    {j : Nat} {o' : Oper} (ho' : ops[j]? = some o') (hj : E.testBit j = true) (hL : ¬ L j) : Agree (compOper P ops o') t (putT (o.dst.map pathOf) v t) ∧ ∀ d, o'.dst = some d → evTmp (pathOf d) t = evTmp (pathOf d) (putT (o.dst.map pathOf) v t) := by
  have hij : j ≠ i := fun e => by subst e; rw [hj] at hE; cases hE
  have noanc : ¬ Anc anc j i := fun h' => by have := h.ancE j hj i h'; rw [hE] at this; cases this
  refine ⟨fun n hn => ?_, fun d hd' => ?_⟩
  · by_cases hdn : o.dst = some n
    · exfalso
      rcases hd.reads j i o' o n ho' ho hdn hn with h1 | ⟨h1, h2 | h2⟩
      · exact noanc h1
      · exact hij h2
      · exact hL (hlast h1 j h2)
    · exact (putT_ne hdn v t).symm
  · by_cases hdn : o.dst = some d
    · exfalso
      rcases hd.dsts i j o o' d ho ho' (Ne.symm hij) hdn hd' with ⟨h1, h2⟩ | ⟨h1, h2⟩
      · exact noanc h2
      · exact hL (hlast h1 j h2)
    · exact (putT_ne hdn v t).symm

theorem bit_self (a i : Nat) : (a ||| bitN i).testBit i = true := (orBit_test a i i).2 (.inr rfl)
theorem bit_old {a i j : Nat} (h : a.testBit j = true) : (a ||| bitN i).testBit j = true := (orBit_test a i j).2 (.inl h)
theorem bit_cases {a i j : Nat} (h : (a ||| bitN i).testBit j = true) : a.testBit j = true ∨ j = i := ((orBit_test a i j).1 h).imp id Eq.symm
theorem bit_ne {a i j : Nat} (hne : j ≠ i) : (a ||| bitN i).testBit j = a.testBit j := by
  cases h : a.testBit j with
  | true => exact bit_old h
  | false =>
    cases h' : (a ||| bitN i).testBit j with
    | false => rfl
    | true => rcases bit_cases h' with h'' | h''
              · rw [h''] at h; cases h
              · exact absurd h'' hne

/-- Our run carries out one that has not come up: a value, or one that is not wanted. -/
theorem Inv.val (hd : DrawnOk P ops anc M N) (h : Inv base P ops anc M N ρ0 S0 L E F A V idf ρ S w t a) {i : Nat} {o : Oper} (ho : ops[i]? = some o) (hE : E.testBit i = false) (hanc : ∀ j, Anc anc i j → E.testBit j = true) (hM : M.testBit i = false) {v : AV} {b : Bool}
    (hw : ∀ k, wantC (compOper P ops o).guard t k = k b) (hv : b = true → isVal (compOp P o) = true ∧ ∃ S', nowK (compOp P o) t S = some (v, S')) (hsk : b = false → v = .tup []) :
    Inv base P ops anc M N ρ0 S0 L (E ||| bitN i) (F ||| bitN i) A (V ||| bitN i) idf ρ S w (putT (o.dst.map pathOf) v t) a := by
  have hLi : ¬ L i := fun hl => by have := h.sub i hl; rw [hE] at this; cases this
  have hself : ¬ Anc anc i i := fun h' => by have := hanc i h'; rw [hE] at this; cases this
  have hown : Agree (compOper P ops o) t (putT (o.dst.map pathOf) v t) := fun n hn => by
    by_cases hdn : o.dst = some n
    · exfalso
      rcases hd.reads i i o o n ho ho hdn hn with h1 | ⟨h1, _⟩
      · exact hself h1
      · rw [hM] at h1; cases h1
    · exact (putT_ne hdn v t).symm
  have hfr := fun {j : Nat} {o' : Oper} (ho' : ops[j]? = some o') (hj : E.testBit j = true) (hL : ¬ L j) => h.frame hd ho hE (fun h1 => by rw [hM] at h1; cases h1) v ho' hj hL
  refine { world := h.world, le := h.le, keep := h.keep, defers := by rw [off_putT]; exact h.defers, size := h.size, den := fun n hn => ?_, sub := fun j hj => bit_old (h.sub j hj), main := fun j hj hL => ?_, ancL := h.ancL, ancE := fun j hj m hm => ?_, inA := h.inA, vE := fun j hj => ?_, fact := fun j o' ho' hj hL => ?_, ids := fun j1 j2 o1 o2 ho1 ho2 hj1 hL1 hj2 hL2 hm1 hm2 he => ?_ }
  · have hdn : o.dst ≠ some n := fun e => hLi (hn i o ho e (bit_self _ _))
    rw [putT_ne hdn]
    exact h.den n fun j o' ho' hd' hj => hn j o' ho' hd' (bit_old hj)
  · rcases bit_cases hj with hj | rfl
    · exact h.main j hj hL
    · exact hM
  · rcases bit_cases hj with hj | rfl
    · exact bit_old (h.ancE j hj m hm)
    · exact bit_old (hanc m hm)
  · rcases bit_cases hj with hj | rfl
    · exact bit_old (h.vE j hj)
    · exact bit_self _ _
  · rcases bit_cases hj with hj | rfl
    · have hne : j ≠ i := fun e => by rw [e] at hj; rw [hj] at hE; cases hE
      obtain ⟨f1, f2⟩ := hfr ho' hj hL
      rw [bit_ne hne, bit_ne hne]
      rcases h.fact j o' ho' hj hL with ⟨h1, h2⟩ | h1 | ⟨h1, h2, h3⟩
      · exact .inl ⟨h1, h2.agree f1 f2 fun h => ⟨h, rfl⟩⟩
      · exact .inr (.inl (h1.agree f1 f2))
      · exact .inr (.inr ⟨h1.agree f1 f2 (Nat.le_refl _) (fun _ h => h), h2, h3⟩)
    · rw [ho] at ho'
      cases ho'
      cases b with
      | true =>
        obtain ⟨h1, S', h2⟩ := hv rfl
        exact .inl ⟨bit_self _ _, fun k => by rw [← hown.want]; exact hw k, h1, v, putT_holds o v t, fun _ => ⟨S', by rw [← h2]; exact (opK_congr _ hown.args _ _).symm⟩⟩
      | false =>
        have := hsk rfl
        subst this
        exact .inr (.inl ⟨fun k => by rw [← hown.want]; exact hw k, putT_holds o _ t⟩)
  · have key : ∀ {j : Nat} {o' : Oper}, ops[j]? = some o' → (E ||| bitN i).testBit j = true → ¬ L j → MkAt P ops o' (putT (o.dst.map pathOf) v t) S (idf j) → E.testBit j = true ∧ MkAt P ops o' t S (idf j) := by
      intro j o' ho' hj hL hm
      rcases bit_cases hj with hj | rfl
      · obtain ⟨f1, f2⟩ := hfr ho' hj hL
        exact ⟨hj, hm.agree (fun n hn => (f1 n hn).symm) (fun d hd => (f2 d hd).symm) (Nat.le_refl _) (fun _ h => h)⟩
      · exfalso
        rw [ho] at ho'
        cases ho'
        have h1 := hm.1 (fun b => if b = true then some (AV.pnil, S) else none)
        rw [← hown.want, hw] at h1
        cases b with
        | false => cases h1
        | true =>
          have h2 := (hv rfl).1
          have h3 := hm.2.1
          rw [val_not_mk h2] at h3
          cases h3
    obtain ⟨e1, m1⟩ := key ho1 hj1 hL1 hm1
    obtain ⟨e2, m2⟩ := key ho2 hj2 hL2 hm2
    exact h.ids j1 j2 o1 o2 ho1 ho2 e1 hL1 e2 hL2 m1 m2 he

/-- Our run makes a new object that the world has not yet. -/
theorem Inv.mk' (hd : DrawnOk P ops anc M N) (h : Inv base P ops anc M N ρ0 S0 L E F A V idf ρ S w t a) {i : Nat} {o : Oper} (ho : ops[i]? = some o) (hE : E.testBit i = false) (hanc : ∀ j, Anc anc i j → E.testBit j = true) (hM : M.testBit i = false) {ob : AObj} {vf : Nat → AV}
    (hw : ∀ k, wantC (compOper P ops o).guard t k = k true) (hmk : isMk (compOp P o) = true) (heq : ∀ S c, opK (compOp P o) t S c = newK S ob fun b S => c (vf b) S) :
    Inv base P ops anc M N ρ0 S0 L (E ||| bitN i) 0 A V (fun j => if j = i then S.next else idf j) ρ { heap := S.heap.setK (some ob) S.next, next := Nat.succ S.next } w (putT (o.dst.map pathOf) (vf S.next) t) a := by
  have hLi : ¬ L i := fun hl => by have := h.sub i hl; rw [hE] at this; cases this
  have hself : ¬ Anc anc i i := fun h' => by have := hanc i h'; rw [hE] at this; cases this
  have hown : Agree (compOper P ops o) t (putT (o.dst.map pathOf) (vf S.next) t) := fun n hn => by
    by_cases hdn : o.dst = some n
    · exfalso
      rcases hd.reads i i o o n ho ho hdn hn with h1 | ⟨h1, _⟩
      · exact hself h1
      · rw [hM] at h1; cases h1
    · exact (putT_ne hdn _ t).symm
  have hfr := fun {j : Nat} {o' : Oper} (ho' : ops[j]? = some o') (hj : E.testBit j = true) (hL : ¬ L j) => h.frame hd ho hE (fun h1 => by rw [hM] at h1; cases h1) (vf S.next) ho' hj hL
  have hback : ∀ {id x}, id < S.next → (S.heap.setK (some ob) S.next).getK id = some x → S.heap.getK id = some x := fun hid hx => by
    rcases HT.getK_setK _ _ _ hx with ⟨e, _⟩ | ⟨_, g⟩
    · omega
    · exact g
  refine { world := h.world.ahead ob, le := h.le, keep := h.keep.trans .ahead, defers := by rw [off_putT]; exact h.defers, size := h.size, den := fun n hn => ?_, sub := fun j hj => bit_old (h.sub j hj), main := fun j hj hL => ?_, ancL := h.ancL, ancE := fun j hj m hm => ?_, inA := h.inA, vE := fun j hj => bit_old (h.vE j hj), fact := fun j o' ho' hj hL => ?_, ids := fun j1 j2 o1 o2 ho1 ho2 hj1 hL1 hj2 hL2 hm1 hm2 he => ?_ }
  · have hdn : o.dst ≠ some n := fun e => hLi (hn i o ho e (bit_self _ _))
    rw [putT_ne hdn]
    exact h.den n fun j o' ho' hd' hj => hn j o' ho' hd' (bit_old hj)
  · rcases bit_cases hj with hj | rfl
    · exact h.main j hj hL
    · exact hM
  · rcases bit_cases hj with hj | rfl
    · exact bit_old (h.ancE j hj m hm)
    · exact bit_old (hanc m hm)
  · rcases bit_cases hj with hj | rfl
    · have hne : j ≠ i := fun e => by rw [e] at hj; rw [hj] at hE; cases hE
      obtain ⟨f1, f2⟩ := hfr ho' hj hL
      rcases h.fact j o' ho' hj hL with ⟨h1, h2⟩ | h1 | ⟨h1, h2, h3⟩
      · exact .inl ⟨h1, h2.agree f1 f2 fun h => by rw [zero_test] at h; cases h⟩
      · exact .inr (.inl (h1.agree f1 f2))
      · refine .inr (.inr ?_)
        simp only [if_neg hne]
        have hid : idf j < S.next := by obtain ⟨_, _, _, _, _, _, h5, _⟩ := h1; exact h5
        exact ⟨h1.agree f1 f2 (Nat.le_succ _) (fun x hx => hback hid hx), h2, h3⟩
    · rw [ho] at ho'
      cases ho'
      refine .inr (.inr ?_)
      simp only [if_true]
      refine ⟨⟨fun k => by rw [← hown.want]; exact hw k, hmk, ob, vf, fun S c => by rw [← heq]; exact (opK_congr _ hown.args _ _).symm, putT_holds o _ t, Nat.lt_succ_self _, fun ob' hob => ?_⟩, h.world.dom _ (Nat.le_refl _), h.keep.1⟩
      rcases HT.getK_setK _ _ _ hob with ⟨_, e⟩ | ⟨e, _⟩
      · exact (Option.some.inj e).symm
      · exact absurd rfl e
  · have key : ∀ {j : Nat} {o' : Oper}, ops[j]? = some o' → (E ||| bitN i).testBit j = true → ¬ L j → j ≠ i → MkAt P ops o' (putT (o.dst.map pathOf) (vf S.next) t) { heap := S.heap.setK (some ob) S.next, next := Nat.succ S.next } (idf j) → E.testBit j = true ∧ idf j < S.next ∧ MkAt P ops o' t S (idf j) := by
      intro j o' ho' hj hL hne hm
      have hj : E.testBit j = true := (bit_cases hj).resolve_right hne
      obtain ⟨f1, f2⟩ := hfr ho' hj hL
      rcases h.fact j o' ho' hj hL with ⟨_, h2⟩ | h1 | ⟨h1, h2, h3⟩
      · exfalso
        have h3 := hm.2.1
        rw [val_not_mk h2.2.1] at h3
        cases h3
      · exfalso
        have e1 := hm.1 (fun b => if b = true then some (AV.pnil, S) else none)
        have e2 := (h1.agree f1 f2).1 (fun b => if b = true then some (AV.pnil, S) else none)
        rw [e1] at e2
        cases e2
      · exact ⟨hj, (by obtain ⟨_, _, _, _, _, _, h5, _⟩ := h1; exact h5), h1⟩
    by_cases e1 : j1 = i <;> by_cases e2 : j2 = i
    · rw [e1, e2]
    · simp only [if_pos e1, if_neg e2] at he hm2
      have := (key ho2 hj2 hL2 e2 hm2).2.1
      omega
    · simp only [if_neg e1, if_pos e2] at he hm1
      have := (key ho1 hj1 hL1 e1 hm1).2.1
      omega
    · simp only [if_neg e1, if_neg e2] at he hm1 hm2
      obtain ⟨a1, _, a3⟩ := key ho1 hj1 hL1 e1 hm1
      obtain ⟨b1, _, b3⟩ := key ho2 hj2 hL2 e2 hm2
      exact h.ids j1 j2 o1 o2 ho1 ho2 a1 hL1 b1 hL2 a3 b3 he

/-- A new object that is not wanted. -/
theorem Inv.mkSkip (hd : DrawnOk P ops anc M N) (h : Inv base P ops anc M N ρ0 S0 L E F A V idf ρ S w t a) {i : Nat} {o : Oper} (ho : ops[i]? = some o) (hE : E.testBit i = false) (hanc : ∀ j, Anc anc i j → E.testBit j = true) (hM : M.testBit i = false)
    (hw : ∀ k, wantC (compOper P ops o).guard t k = k false) : Inv base P ops anc M N ρ0 S0 L (E ||| bitN i) 0 A V idf ρ S w (putT (o.dst.map pathOf) (.tup []) t) a := by
  have h1 := h.val hd ho hE hanc hM (v := .tup []) (b := false) hw (fun h => by cases h) (fun _ => rfl)
  exact { h1 with
    vE := fun j hj => bit_old (h.vE j hj)
    fact := fun j o' ho' hj hL => by
      rcases h1.fact j o' ho' hj hL with ⟨e1, e2⟩ | e | e
      · by_cases hji : j = i
        · subst hji
          rw [ho] at ho'
          cases ho'
          exfalso
          have hag : ∀ k, wantC (compOper P ops o).guard (putT (o.dst.map pathOf) (.tup []) t) k = k false := by
            rcases h1.fact j o ho (bit_self _ _) hL with ⟨_, q⟩ | q | q
            · intro k
              have hself : ¬ Anc anc j j := fun h' => by have := hanc j h'; rw [hE] at this; cases this
              have hown : Agree (compOper P ops o) t (putT (o.dst.map pathOf) (.tup []) t) := fun n hn => by
                by_cases hdn : o.dst = some n
                · exfalso
                  rcases hd.reads j j o o n ho ho hdn hn with h1 | ⟨h1, _⟩
                  · exact hself h1
                  · rw [hM] at h1; cases h1
                · exact (putT_ne hdn _ t).symm
              rw [← hown.want]; exact hw k
            · exact q.1
            · intro k
              have hself : ¬ Anc anc j j := fun h' => by have := hanc j h'; rw [hE] at this; cases this
              have hown : Agree (compOper P ops o) t (putT (o.dst.map pathOf) (.tup []) t) := fun n hn => by
                by_cases hdn : o.dst = some n
                · exfalso
                  rcases hd.reads j j o o n ho ho hdn hn with h1 | ⟨h1, _⟩
                  · exact hself h1
                  · rw [hM] at h1; cases h1
                · exact (putT_ne hdn _ t).symm
              rw [← hown.want]; exact hw k
          have q1 := e2.1 (fun b => if b = true then some (AV.pnil, S) else none)
          rw [hag] at q1
          cases q1
        · exact .inl ⟨by rw [bit_ne hji] at e1; exact e1, e2.1, e2.2.1, by obtain ⟨_, _, v, q1, _⟩ := e2; exact ⟨v, q1, fun h => by rw [zero_test] at h; cases h⟩⟩
      · exact .inr (.inl e)
      · exact .inr (.inr e) }
end
end Go.Proofs.YtpochibfjpanhaaGreat.Exe
