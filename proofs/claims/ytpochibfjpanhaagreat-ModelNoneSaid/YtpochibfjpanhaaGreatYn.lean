/- A part of the machine that reckons a closed run, and of the proof that what it says the given program does. No conditions. -/
import Derived.Test.YtpochibfjpanhaaGreatYm
set_option linter.unusedVariables false
set_option linter.unusedSimpArgs false
namespace Go.Proofs.YtpochibfjpanhaaGreat.Exe
open Go
variable {base w : World} {P : Program} {ρ : Rho} {S : AS} {t : T} {o : Oper} {c : K} {z : AV × Option AS} {a : Act}
variable {ops : Array Oper} {anc : List Nat} {M N : Nat} {ρ0 : Rho} {S0 : AS} {L : Nat → Prop} {E F A V : Nat} {idf : Nat → Nat}

/-! ### What the order covers -/
theorem chkL_cons {as : List AOp} {k i : Nat} {r : List (Nat × Nat)} (h : chkL as anc M ((k, i) :: r) E F A V = true) :
    ∃ o, as[i]? = some o ∧ ((k = 3 ∧ ∃ F', chkL as anc M r E F' A V = true) ∨ (k ≠ 3 ∧ E.testBit i = false ∧ (∀ j, Anc anc i j → E.testBit j = true) ∧ ∃ F' A' V', chkL as anc M r (E ||| bitN i) F' A' V' = true)) := by
  unfold chkL at h
  cases ho : as[i]? with
  | none => rw [ho] at h; cases h
  | some o =>
    rw [ho] at h
    refine ⟨o, rfl, ?_⟩
    match k, h with
    | 0, h =>
      simp only [Bool.and_eq_true, Bool.not_eq_true'] at h
      exact .inr ⟨by omega, h.1.1, fun j hj => subN_test h.1.2 hj, _, _, _, h.2.2⟩
    | 1, h =>
      simp only [Bool.and_eq_true, Bool.not_eq_true'] at h
      exact .inr ⟨by omega, h.1.1, fun j hj => subN_test h.1.2 hj, _, _, _, h.2.2⟩
    | 2, h =>
      simp only [Bool.and_eq_true, Bool.not_eq_true'] at h
      exact .inr ⟨by omega, h.1.1, fun j hj => subN_test h.1.2 hj, _, _, _, h.2.2⟩
    | 3, h =>
      simp only [Bool.and_eq_true] at h
      exact .inl ⟨rfl, _, h.2⟩
    | n + 4, h => simp at h

theorem chkL_cover {as : List AOp} : ∀ {r : List (Nat × Nat)} {E F A V : Nat}, chkL as anc M r E F A V = true → ∀ j, j < as.length → E.testBit j = true ∨ ∃ k, (k, j) ∈ r ∧ k ≠ 3
  | [], E, F, A, V, h, j, hj => by
    unfold chkL at h
    simp only [Bool.and_eq_true] at h
    have := beq_true h.1
    rw [this]
    exact .inl (full_test hj)
  | (k, i) :: r, E, F, A, V, h, j, hj => by
    obtain ⟨o, _, h | h⟩ := chkL_cons h
    · obtain ⟨_, F', h⟩ := h
      rcases chkL_cover h j hj with h1 | ⟨k', h1, h2⟩
      · exact .inl h1
      · exact .inr ⟨k', List.mem_cons_of_mem _ h1, h2⟩
    · obtain ⟨hk, _, _, F', A', V', h⟩ := h
      rcases chkL_cover h j hj with h1 | ⟨k', h1, h2⟩
      · rcases bit_cases h1 with h1 | rfl
        · exact .inl h1
        · exact .inr ⟨k, List.mem_cons_self, hk⟩
      · exact .inr ⟨k', List.mem_cons_of_mem _ h1, h2⟩

theorem chkL_main {as : List AOp} {i : Nat} {r : List (Nat × Nat)} (h : chkL as anc M ((2, i) :: r) E F A V = true) :
    ∃ o, as[i]? = some o ∧ E.testBit i = false ∧ isDefer o.op = false ∧ M.testBit i = true ∧ (∀ j, V.testBit j = true → F.testBit j = true ∨ A.testBit j = true) ∧ (∀ k j, (k, j) ∈ r → k ≠ 3 → Anc anc j i) ∧ chkL as anc M r (E ||| bitN i) 0 (anc.getD i 0 ||| bitN i) V = true := by
  unfold chkL at h
  cases ho : as[i]? with
  | none => rw [ho] at h; cases h
  | some o =>
    rw [ho] at h
    simp only [Bool.and_eq_true, Bool.not_eq_true'] at h
    obtain ⟨⟨hE, hanc⟩, ⟨⟨⟨hdf, hM⟩, hV⟩, hall⟩, hc⟩ := h
    refine ⟨o, rfl, hE, hdf, hM, fun j hj => (or_test _ _ _).1 (subN_test hV hj), fun k j hm hk => ?_, hc⟩
    have := List.all_eq_true.1 hall (k, j) hm
    simp only [Bool.or_eq_true] at this
    rcases this with h1 | h1
    · exact absurd (beq_true h1) hk
    · exact h1
theorem chkL_nil {as : List AOp} (h : chkL as anc M [] E F A V = true) : (∀ j, j < as.length → E.testBit j = true) ∧ ∀ j, V.testBit j = true → F.testBit j = true ∨ A.testBit j = true := by
  unfold chkL at h
  simp only [Bool.and_eq_true] at h
  have := beq_true h.1
  rw [this]
  exact ⟨fun j hj => full_test hj, fun j hj => (or_test _ _ _).1 (subN_test h.2 hj)⟩

/-! ### A table of what one operation looks at -/
noncomputable def onlyT (t : T) : List Nat → T
  | [] => T.nil
  | n :: r => T.setP (evTmp (pathOf n) t) (pathOf n) (onlyT t r)
theorem onlyT_get (t : T) : ∀ (ns : List Nat) (n : Nat), (n ∈ ns → evTmp (pathOf n) (onlyT t ns) = evTmp (pathOf n) t) ∧ (n ∉ ns → evTmp (pathOf n) (onlyT t ns) = .junk)
  | [], n => ⟨fun h => (by cases h), fun _ => by
      unfold onlyT
      exact nil_get _⟩
  | m :: r, n => by
    obtain ⟨h1, h2⟩ := onlyT_get t r n
    by_cases hnm : n = m
    · subst hnm
      exact ⟨fun _ => evTmp_put n _ _, fun h => absurd List.mem_cons_self h⟩
    · refine ⟨fun h => ?_, fun h => ?_⟩
      · rw [onlyT, evTmp_put_ne hnm]
        exact h1 ((List.mem_cons.1 h).resolve_left hnm)
      · rw [onlyT, evTmp_put_ne hnm]
        exact h2 fun h' => h (List.mem_cons_of_mem _ h')

theorem mem_looks_guard {o : Oper} {j n : Nat} {b : Bool} (hg : o.guard = some (j, b)) (hd : (ops[j]?).bind (·.dst) = some n) : n ∈ looksA (compOper P ops o) := by
  refine List.mem_append_right _ ?_
  rw [compOper_guard, hg]
  show n ∈ (match (some (((ops[j]?).bind (·.dst)).map pathOf, b) : Option (Option (List D4) × Bool)) with | some (some p, _) => [unpath p] | _ => [])
  rw [hd]
  show n ∈ [unpath (pathOf n)]
  rw [show unpath (pathOf n) = n from unpath_pathF _ _ (by omega)]
  simp

section
variable {cl : Cl} {k : KL} {Q : Exit → Act → World → Prop}

/-- What one that may come up looks at is known. -/
theorem Inv.looks (hd : DrawnOk P ops anc M N) (h : Inv base P ops anc M N ρ0 S0 L E F A V idf ρ S w t a) {i : Nat} {o : Oper} (ho : ops[i]? = some o) (hanc : ∀ j, Anc anc i j → L j) (hi : E.testBit i = false ∨ M.testBit i = false) {n : Nat} (hn : n ∈ looksA (compOper P ops o)) : Den ρ (evTmp (pathOf n) t) (a.tmps.getD n undef) := by
  refine h.den n fun j o' ho' hd' hj => ?_
  rcases hd.reads i j o o' n ho ho' hd' hn with h1 | ⟨h1, h2⟩
  · exact hanc j h1
  · by_cases hL : L j
    · exact hL
    · have := h.main j hj hL
      rw [h1] at this
      cases this
theorem Inv.trel (hd : DrawnOk P ops anc M N) (h : Inv base P ops anc M N ρ0 S0 L E F A V idf ρ S w t a) {i : Nat} {o : Oper} (ho : ops[i]? = some o) (hanc : ∀ j, Anc anc i j → L j) : TRel ρ (onlyT t (looksA (compOper P ops o))) a := fun n => by
  by_cases hn : n ∈ looksA (compOper P ops o)
  · rw [(onlyT_get t _ n).1 hn]
    refine h.den n fun j o' ho' hd' hj => ?_
    rcases hd.reads i j o o' n ho ho' hd' hn with h1 | ⟨h1, h2⟩
    · exact hanc j h1
    · by_cases hL : L j
      · exact hL
      · have := h.main j hj hL
        rw [h1] at this
        cases this
  · rw [(onlyT_get t _ n).2 hn]
    exact .junk _
theorem agree_only (x : AOp) (t : T) : Agree x t (onlyT t (looksA x)) := fun n hn => ((onlyT_get t _ n).1 hn).symm

def unl (l : Array Bool) : Nat := l.toList.countP (fun b => !b)
theorem unl_set {l : Array Bool} {i : Nat} (h : l.getD i true = false) : unl (l.setIfInBounds i true) + 1 = unl l := by
  have hi : i < l.size := by
    rcases Nat.lt_or_ge i l.size with h' | h'
    · exact h'
    · simp [Array.getElem?_eq_none h'] at h
  have hv : l[i] = false := by simpa [hi] using h
  unfold unl
  rw [Array.toList_setIfInBounds, List.countP_set (by simpa using hi)]
  have hpos : 0 < l.toList.countP (fun b => !b) := List.countP_pos_iff.2 ⟨false, by rw [← hv]; simp, rfl⟩
  have e1 : (if (!(l.toList[i]'(by simpa using hi))) = true then 1 else 0) = 1 := by simp [hv]
  have e2 : (if (!true) = true then 1 else 0) = 0 := by simp
  rw [e1, e2]
  omega
theorem unl_zero {l : Array Bool} (h : unl l = 0) {j : Nat} (hj : j < l.size) : l.getD j false = true := by
  have h := List.countP_eq_zero.1 h l[j] (by simp)
  have : l[j] = true := by simpa using h
  simp [hj, this]

theorem drawn_go {ro : Option Nat} (hN : NamesOk P) (hcl : ClOK P cl) (hd : DrawnOk P ops anc M N) (hq : Ends base ρ0 S0 k z N (Q .normal)) :
    ∀ (fuel : Nat) (listed : Array Bool) (E F A V : Nat) (idf : Nat → Nat) (res : List (Nat × Nat)) (ρ : Rho) (S : AS) (w : World) (t : T) (a : Act), listed.size = ops.size → unl listed ≤ fuel →
      Inv base P ops anc M N ρ0 S0 (fun j => listed.getD j false = true) E F A V idf ρ S w t a → (res = [] ∨ ∃ p r, res = (2, p) :: r) → runL (compW (ops.toList.map (compOper P ops)) res) cl t S k = some z → chkL (ops.toList.map (compOper P ops)) anc M res E F A V = true →
      wpAnyIn (FW ro) 0 P .any ops Q fuel listed a w := by
  intro fuel
  induction fuel with
  | zero =>
    intro listed E F A V idf res ρ S w t a hsz hu h hb hr hc
    have hall : ∀ j, j < ops.size → listed.getD j false = true := fun j hj => unl_zero (by omega) (by omega)
    have fin : Q .normal a w := by
      rcases hb with rfl | ⟨p, r, rfl⟩
      · refine hq t S ρ a w hr h.le h.keep ⟨h.world, fun n => h.den n fun i o ho _ _ => hall i (Array.getElem?_eq_some_iff.1 ho).1, h.defers, h.size⟩
      · exfalso
        obtain ⟨o, ho, hE, _⟩ := chkL_main hc
        have hp : p < ops.size := by
          have := (List.getElem?_eq_some_iff.1 ho).1
          simpa using this
        have := h.sub p (hall p hp)
        rw [hE] at this
        cases this
    refine ⟨?_, fin⟩
    apply List.filter_eq_nil_iff.2
    intro i hi
    have := hall i (List.mem_range.1 hi)
    have h2 : listed.getD i true = true := by
      have hlt : i < listed.size := by rw [hsz]; exact List.mem_range.1 hi
      simpa [hlt] using this
    rw [h2]
    simp
  | succ fuel ih =>
    intro listed E F A V idf res ρ S w t a hsz hu h hb hr hc
    have fin : (∀ j, j < ops.size → listed.getD j false = true) → Q .normal a w := by
      intro hall
      rcases hb with rfl | ⟨p, r, rfl⟩
      · refine hq t S ρ a w hr h.le h.keep ⟨h.world, fun n => h.den n fun i o ho _ _ => hall i (Array.getElem?_eq_some_iff.1 ho).1, h.defers, h.size⟩
      · exfalso
        obtain ⟨o, ho, hE, _⟩ := chkL_main hc
        have hp : p < ops.size := by
          have := (List.getElem?_eq_some_iff.1 ho).1
          simpa using this
        have := h.sub p (hall p hp)
        rw [hE] at this
        cases this
    refine ⟨fun hnil => fin fun j => ?_, fun i hi => ?_⟩
    · induction j using Nat.strongRecOn with
      | _ j IH =>
        intro hj
        cases hl : listed.getD j false with
        | true => rfl
        | false =>
          exfalso
          have hlt : j < listed.size := by omega
          have hmem : j ∈ Region.ready .any ops listed := by
            refine mem_ready.2 ⟨by simpa [hlt] using hl, ops[j], by simp [hj], fun e he hbd => ?_⟩
            have hon := hd.edges j ops[j] (by simp [hj]) e he hbd
            exact IH e.on hon (by omega)
          rw [hnil] at hmem
          cases hmem
    · obtain ⟨hun, o, ho, hafter⟩ := mem_ready.1 hi
      have hlt : i < listed.size := by
        rcases Nat.lt_or_ge i listed.size with h' | h'
        · exact h'
        · simp [Array.getElem?_eq_none h'] at hun
      have hLi : ¬ (listed.getD i false = true) := by
        intro h'
        simp [hlt] at hun h'
        rw [h'] at hun
        cases hun
      have hanc : ∀ j, Anc anc i j → listed.getD j false = true := fun j hj => by
        obtain ⟨e, he, hbd, h1 | h1⟩ := hd.must i o ho j hj
        · subst h1; exact hafter e he hbd
        · exact h.ancL e.on (hafter e he hbd) j h1
      have hL' : ∀ j, (listed.setIfInBounds i true).getD j false = true ↔ (listed.getD j false = true ∨ j = i) := fun j => by
        by_cases hji : j = i
        · subst hji
          simp [hlt]
        · rw [getD_set_ne false (Ne.symm hji)]
          simp [hji]
      have hLe : (fun j => listed.getD j false = true ∨ j = i) = (fun j => (listed.setIfInBounds i true).getD j false = true) := funext fun j => propext (hL' j).symm
      have hsz' : (listed.setIfInBounds i true).size = ops.size := by simp [hsz]
      have hu' : unl (listed.setIfInBounds i true) ≤ fuel := by have := unl_set hun; omega
      have htr := h.trel hd ho hanc
      have hag := agree_only (compOper P ops o) t
      have hguard : ∀ n, (∃ j b, o.guard = some (j, b) ∧ ((ops[j]?).bind (·.dst)) = some n) → Den ρ (evTmp (pathOf n) t) (a.tmps.getD n undef) := fun n hn => by
        obtain ⟨j, b, hg, hdn⟩ := hn
        have := htr n
        rw [(onlyT_get t _ n).1 (mem_looks_guard hg hdn)] at this
        exact this
      -- is it wanted?
      have hwant : ∀ b, (∀ k, wantC (compOper P ops o).guard t k = k b) → Region.wanted o (yielded ops a.tmps) = b := fun b hw => by
        have h1 := hw (fun x => if x = b then some (AV.pnil, S) else none)
        rw [if_pos rfl] at h1
        rw [compOper_guard] at h1
        have h2 := wantC_some (o := o) (ops := ops) (a := a) rfl hguard h1
        by_cases hq : Region.wanted o (yielded ops a.tmps) = b
        · exact hq
        · rw [if_neg hq] at h2; cases h2
      by_cases hEi : E.testBit i = true
      · -- our run has carried it out
        have hVF : V.testBit i = true → F.testBit i = true := fun hV => by
          have : F.testBit i = true ∨ A.testBit i = true := by
            rcases hb with rfl | ⟨p, r, rfl⟩
            · exact (chkL_nil hc).2 i hV
            · obtain ⟨_, _, _, _, _, h1, _⟩ := chkL_main hc
              exact h1 i hV
          exact this.resolve_right fun hA => hLi (h.inA i hA)
        rcases h.fact i o ho hEi hLi with ⟨hV, hw, hval, v, hh, hnow⟩ | ⟨hw, hh⟩ | ⟨⟨hw, hmk, ob, vf, heq, hh, hid, hobj⟩, hnone, h0⟩
        · obtain ⟨S', hnow⟩ := hnow (hVF hV)
          have hwt := hwant true hw
          unfold wpOpIn
          rw [ho]
          simp only [hwt, if_true]
          have hnow' : opK (compOp P o) (onlyT t (looksA (compOper P ops o))) S (fun v S => some (v, some S)) = some (v, S') := by
            rw [← hnow]; exact (opK_congr _ hag.args _ _).symm
          have hnone : compOp? P o = some (compOp P o) := by
            unfold compOp at hval ⊢
            cases hx : compOp? P o with
            | none => rw [hx] at hval; cases hval
            | some x => rfl
          rcases sound_of hnone with ⟨_, hs⟩ | ⟨hs, _⟩ | ⟨hs, _⟩
          · obtain ⟨v', u, h1, h2, h3⟩ := hs base ρ S a.eval w _ _ _ htr.ev h.world hnow'
            cases h1
            refine value_wp (not_defer hnone (class_call (.inl hval))) h3 ?_
            refine ih _ E F A V idf res ρ S w t _ hsz' hu' ?_ hb hr hc
            rw [← hLe]
            exact h.come ho hEi hanc (fun d => hd.tmps i o d ho) hh ρ.le_refl h.keep h.world h2 (fun _ _ _ _ _ _ _ h => h)
          · rw [hval] at hs; cases hs
          · rw [hval] at hs; cases hs
        · have hwt := hwant false hw
          unfold wpOpIn
          rw [ho]
          simp only [hwt, if_false, Bool.false_eq_true]
          refine ⟨fun _ _ => trivial, ?_⟩
          refine ih _ E F A V idf res ρ S w t _ hsz' hu' ?_ hb hr hc
          rw [← hLe]
          exact h.come ho hEi hanc (fun d => hd.tmps i o d ho) hh ρ.le_refl h.keep h.world (.tup .nil) (fun _ _ _ _ _ _ _ h => h)
        · have hwt := hwant true hw
          unfold wpOpIn
          rw [ho]
          simp only [hwt, if_true]
          have hmk0 : compOp? P o = some (compOp P o) := by
            unfold compOp at hmk ⊢
            cases hx : compOp? P o with
            | none => rw [hx] at hmk; cases hmk
            | some x => rfl
          rcases sound_of hmk0 with ⟨hs, _⟩ | ⟨_, _, hs⟩ | ⟨_, hs, _⟩
          · rw [val_not_mk hs] at hmk; cases hmk
          · have heq' : ∀ S c, opK (compOp P o) (onlyT t (looksA (compOper P ops o))) S c = newK S ob fun b S => c (vf b) S := fun S c => by
              rw [← heq]; exact (opK_congr _ hag.args _ _).symm
            have hrun0 : opK (compOp P o) (onlyT t (looksA (compOper P ops o))) { heap := .nil, next := idf i } (fun v S => some (v, some S)) = some (vf (idf i), some { heap := HT.setK (some ob) .nil (idf i), next := Nat.succ (idf i) }) := by
              rw [heq']
              unfold newK
              rw [forceN_eq]
            obtain ⟨ob', vf', heq2, hmk2⟩ := hs _ _ _ _ hrun0
            -- the same object, the same value
            have hvf : ∀ b, vf b = vf' b := fun b => by
              have h1 := heq' { heap := .nil, next := b } (fun v S => some (v, some S))
              rw [heq2] at h1
              unfold newK at h1
              rw [forceN_eq, forceN_eq] at h1
              have h2 := Option.some.inj h1
              exact (Prod.mk.inj h2).1.symm
            have hob : ob = ob' := by
              have h1 := heq' { heap := .nil, next := 0 } (fun v S => some (v, some S))
              rw [heq2] at h1
              unfold newK at h1
              rw [forceN_eq, forceN_eq] at h1
              have h2 := Option.some.inj h1
              have h3 := Option.some.inj (Prod.mk.inj h2).2
              have h4 := congrArg AS.heap h3
              have h5 := congrArg (fun t => HT.getK t 0) h4
              have e1 : ∀ x : AObj, HT.getK (HT.setK (some x) HT.nil 0) 0 = some x := fun x => rfl
              simp only [e1] at h5
              exact (Option.some.inj h5).symm
            subst hob
            obtain ⟨x, u, uv, w1, hw1, h1, h2, h3⟩ := hmk2 ρ a.eval w htr.ev
            refine value_wp (not_defer hmk0 (class_call (.inr hmk))) h3 ?_
            have hww : WRel base (ρ.add (idf i) (w.heap.size, x)) S (w1.alloc u) := by
              rcases hw1 with rfl | rfl
              · exact h.world.late hid hnone hobj h1
              · exact h.world.drew.late hid hnone hobj h1
            have hle : ρ.le (ρ.add (idf i) (w.heap.size, x)) := Rho.le_add hnone
            refine ih _ E F A V idf res (ρ.add (idf i) (w.heap.size, x)) S (w1.alloc u) t _ hsz' hu' ?_ hb hr hc
            rw [← hLe]
            refine h.come ho hEi hanc (fun d => hd.tmps i o d ho) hh hle ⟨h.keep.1, fun b hb hn => ?_⟩ hww ?_ ?_
            · obtain ⟨q1, q2⟩ := h.keep.2 b hb hn
              refine ⟨?_, q2⟩
              unfold Rho.add
              rw [if_neg (by omega)]
              exact q1
            · rw [hvf]; exact h2 _ _ (Rho.add_same _ _ _)
            · intro j o' ho' hj hL hne hm hn
              unfold Rho.add
              have : idf j ≠ idf i := fun e => hne (h.ids j i o' o ho' ho hj hL hEi hLi hm ⟨hw, hmk, ob, vf, heq, hh, hid, hobj⟩ e)
              rw [if_neg this]
              exact hn
          · rw [hmk] at hs; cases hs
      · -- it is the next one of kind 2
        have hEf : E.testBit i = false := by cases hx : E.testBit i with
          | false => rfl
          | true => exact absurd hx hEi
        have hin : i < (ops.toList.map (compOper P ops)).length := by simp; exact (Array.getElem?_eq_some_iff.1 ho).1
        have hcov := (chkL_cover hc i hin).resolve_left hEi
        rcases hb with rfl | ⟨p, r, rfl⟩
        · obtain ⟨_, hm, _⟩ := hcov
          cases hm
        · obtain ⟨o2, ho2, hE2, hdf, hM2, hVF, hrest, hc'⟩ := chkL_main hc
          have hip : i = p := by
            obtain ⟨k', hm, hk'⟩ := hcov
            rcases List.mem_cons.1 hm with hm | hm
            · exact (Prod.mk.inj hm).2
            · have := h.sub p (hanc p (hrest k' i hm hk'))
              rw [hE2] at this
              cases this
          subst hip
          rw [as_get, ho] at ho2
          cases ho2
          unfold compW at hr
          rw [as_get, ho] at hr
          have hr : wantC (compOper P ops o).guard t (fun b => ifB b (stepC (compOp P o) cl t S fun v S => runL (compW (ops.toList.map (compOper P ops)) r) cl (putT (o.dst.map pathOf) v t) S k) (runL (compW (ops.toList.map (compOper P ops)) r) cl (putT (o.dst.map pathOf) (.tup []) t) S k)) = some z := (lGen_eq _ (compW (ops.toList.map (compOper P ops)) r) _ _ _ _ _).symm.trans hr
          obtain ⟨b, hbz, hw⟩ := wantC_cases hr
          have hwt := hwant b hw
          have next : ∀ v S' ρ' w' u, runL (compW (ops.toList.map (compOper P ops)) r) cl (putT (o.dst.map pathOf) v t) S' k = some z → ρ.le ρ' → Keep ρ ρ' S S' → WRel base ρ' S' w' → Den ρ' v u → wpAnyIn (FW ro) 0 P .any ops Q fuel (listed.setIfInBounds i true) (a.put o.dst u) w' := by
            intro v S' ρ' w' u h1 h2 h3 h4 h5
            have hI := h.mainStep hd ho hEf hanc h2 h3 h4 h5
            rw [hLe] at hI
            obtain ⟨res', E', F', V', idf', S'', t', hI', hr', hc'', hb'⟩ := stage hd r _ _ _ _ _ _ hI h1 hc'
            exact ih _ _ _ _ _ _ res' _ _ _ _ _ hsz' hu' hI' hb' hr' hc''
          unfold wpOpIn
          rw [ho]
          cases b with
          | true =>
            simp only [hwt, if_true]
            have hbz : stepC (compOp P o) cl t S (fun v S => runL (compW (ops.toList.map (compOper P ops)) r) cl (putT (o.dst.map pathOf) v t) S k) = some z := hbz
            exact gen_wp hN hcl htr.ev h.world ((stepC_congr (compOp P o) hag.args _ _).symm.trans hbz) fun v S' ρ' w' u h1 h2 h3 h4 h5 => next v S' ρ' w' u h1 h2 h3 h4 h5
          | false =>
            simp only [hwt, if_false, Bool.false_eq_true]
            exact ⟨fun _ _ => trivial, next (.tup []) S ρ w undef hbz ρ.le_refl (.refl ρ S) h.world (.tup .nil)⟩
end
end Go.Proofs.YtpochibfjpanhaaGreat.Exe
