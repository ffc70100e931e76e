/- A part of the machine that reckons a closed run, and of the proof that what it says the given program does. No conditions. -/
import Derived.Test.YtpllompnfhpfmaaGreatDoorMf
import Derived.Maps.RangeRun
import Derived.OrdersIn
import Derived.LoopNIn
import Derived.Scope
import Derived.RangeFuncLeaves
set_option linter.unusedVariables false
set_option linter.unusedSimpArgs false
namespace Go.Proofs.YtpllompnfhpfmaaGreatDoor.Exe
open Go
variable {Lg : Laid} {base : Base Lg} {w : World} {P : Program} {ρ : Rho} {S : AS} {t : T} {e : Operand → Value} {o : Oper} {c : K} {z : AV × Option AS}

noncomputable def AS.del (S : AS) (b : Nat) : AS := { heap := S.heap.setK none b, next := S.next }
theorem AS.live_del {S : AS} {b c : Nat} (h : (S.del b).live c) : c ≠ b ∧ S.live c := by
  obtain ⟨o, ho⟩ := h
  rcases HT.getK_setK _ _ _ ho with ⟨_, e⟩ | ⟨hne, g⟩
  · cases e
  · exact ⟨hne, ⟨_, g⟩⟩
theorem WRel.del (h : WRel base ρ S w) (b : Nat) : WRel base ρ (S.del b) w :=
  { low := h.low, size := h.size, os := h.os, output := h.output, tape := h.tape, dom := h.dom, rng := h.rng,
    inj := fun c d r x y hc hd => h.inj c d r x y (AS.live_del hc).2 (AS.live_del hd).2,
    obj := fun c o r x hc ec => by
      rcases HT.getK_setK _ _ _ hc with ⟨_, e⟩ | ⟨_, g⟩
      · cases e
      · exact h.obj c o r x g ec }
theorem Keep.del {ρ : Rho} {S : AS} {b : Nat} {r : Nat × Nat} (e : ρ b = some r) : Keep ρ ρ S (S.del b) :=
  ⟨Nat.le_refl _, fun c _ ec => ⟨ec, fun o' ho => by
    rcases HT.getK_setK _ _ _ ho with ⟨_, h1⟩ | ⟨_, g⟩
    · cases h1
    · exact g⟩⟩

/-- A block that no live number stands for, under a new number, with what lies there now. -/
theorem WRel.link (h : WRel base ρ S w) {r x : Nat} {o : AObj} {u : Obj} (hr : (base.world.heap.size ≤ r ∨ base.own r) ∧ r < w.heap.size) (hfree : ∀ c y, S.live c → ρ c = some (r, y) → False) (hu : ORel (ρ.add S.next (r, x)) x o u) :
    WRel base (ρ.add S.next (r, x)) { heap := S.heap.setK (some o) S.next, next := Nat.succ S.next } (w.putObj r u) := by
  have hle : ρ.le (ρ.add S.next (r, x)) := Rho.le_add (h.dom _ (Nat.le_refl _))
  have hs : (w.putObj r u).heap.size = w.heap.size := by show (w.heap.setIfInBounds r u).size = _; simp
  have hne : ∀ q, q ≠ r → (w.putObj r u).heap[q]? = w.heap[q]? := fun q hq => by show (w.heap.setIfInBounds r u)[q]? = _; rw [Array.getElem?_setIfInBounds_ne (by omega)]
  refine { low := fun q hq ho => by rw [hne q (fun e => by subst e; exact hr.1.elim (fun g => by omega) ho)]; exact h.low q hq ho, size := by rw [hs]; exact h.size, os := h.os, output := h.output, tape := h.tape, dom := fun b hb => ?_, rng := fun b q y e => ?_, inj := fun b c q y z hb hc eb ec => ?_, obj := fun b o' q y hb e => ?_ }
  · have hb : S.next + 1 ≤ b := hb
    unfold Rho.add
    rw [if_neg (by omega)]
    exact h.dom b (by omega)
  · rw [hs]
    unfold Rho.add at e
    by_cases hc : b = S.next
    · rw [if_pos hc] at e; cases e; exact hr
    · rw [if_neg hc] at e; exact h.rng _ _ _ e
  · obtain ⟨ob, hb⟩ := hb
    obtain ⟨oc, hc⟩ := hc
    unfold Rho.add at eb ec
    by_cases h1 : b = S.next <;> by_cases h2 : c = S.next
    · omega
    · rw [if_pos h1] at eb; rw [if_neg h2] at ec; cases eb
      have g2 : S.live c := by rcases HT.getK_setK _ _ _ hc with ⟨e, _⟩ | ⟨_, g⟩; exact absurd e h2; exact ⟨_, g⟩
      exact (hfree c _ g2 ec).elim
    · rw [if_neg h1] at eb; rw [if_pos h2] at ec; cases ec
      have g1 : S.live b := by rcases HT.getK_setK _ _ _ hb with ⟨e, _⟩ | ⟨_, g⟩; exact absurd e h1; exact ⟨_, g⟩
      exact (hfree b _ g1 eb).elim
    · rw [if_neg h1] at eb; rw [if_neg h2] at ec
      have g1 : S.live b := by rcases HT.getK_setK _ _ _ hb with ⟨e, _⟩ | ⟨_, g⟩; exact absurd e h1; exact ⟨_, g⟩
      have g2 : S.live c := by rcases HT.getK_setK _ _ _ hc with ⟨e, _⟩ | ⟨_, g⟩; exact absurd e h2; exact ⟨_, g⟩
      exact h.inj b c q y z g1 g2 eb ec
  · rcases HT.getK_setK _ _ _ hb with ⟨rfl, e2⟩ | ⟨hbn, g⟩
    · cases e2
      rw [Rho.add_same] at e
      cases e
      exact ⟨u, by show (w.heap.setIfInBounds r u)[r]? = _; rw [Array.getElem?_setIfInBounds_self_of_lt hr.2], hu⟩
    · unfold Rho.add at e
      rw [if_neg hbn] at e
      obtain ⟨v, hv, hrel⟩ := h.obj b o' q y g e
      have : q ≠ r := fun eq => by subst eq; exact hfree b y ⟨_, g⟩ e
      exact ⟨v, by rw [hne q this]; exact hv, hrel.mono hle⟩

/-- What is appended. -/
theorem more_some {esz : Nat} {v : AV} {xv : Value} {k : Nat → List AV → R} (h : moreK esz v S k = some z) (d : Den ρ v xv) (hw : WRel base ρ S w) :
    ∃ m l news, k m l = some z ∧ Cells ρ l news ∧ news.length = m * esz ∧ ∀ w' : World, w'.heap = w.heap → (Builtin.lenOf xv).run P w' = .ok m w' ∧ (Builtin.firstCells esz m xv).run P w' = .ok news.toArray w' := by
  rcases ifB_or h with ⟨h1, h⟩ | ⟨_, h⟩
  · have := isSnil_true h1
    subst this
    cases d
    exact ⟨0, [], [], h, .nil, by simp, fun w' _ => ⟨rfl, rfl⟩⟩
  rcases ifB_or h with ⟨_, hq⟩ | ⟨_, h⟩
  · obtain ⟨hq1, hq2⟩ := ifB_some hq
    have hq1 := beq_true hq1
    subst hq1
    obtain ⟨s, hqs, hq3⟩ := onStr_some hq2
    rw [forceN_eq] at hq3
    subst hqs
    cases d
    have e0 := packK_vals s.data.toList
    have e1 : s.data.toList.length = s.size := by simp
    rw [e1] at e0
    refine ⟨s.size, _, s.data.toList.map fun b => Value.int .u8 (b.toNat : Int), hq3, ?_, by simp, fun w' _ => ⟨rfl, ?_⟩⟩
    · have := Cells.bytes (ρ := ρ) (l := s.size) (n := packK s.data.toList) .nil
      rwa [List.append_nil, e0] at this
    · simp only [Builtin.firstCells]
      rw [show s.extract 0 s.size = s by simp]
      show Result.ok _ _ = _
      congr 1
      apply Array.toList_inj.1
      simp
  · obtain ⟨b, q, m, cap, op, rfl, h⟩ := onSl_some h
    obtain ⟨el, es, cs, hb, h⟩ := onCells_some h
    obtain ⟨l, hl, h⟩ := onSome_some h
    cases d with
    | @sl _ _ _ _ r x _ hρ =>
      obtain ⟨us, tail, fz, hh, hc, _, _⟩ := hw.cells hb hρ
      obtain ⟨hlen, hcl⟩ := segsK_some hc hl
      have hlen : q + m * esz ≤ us.length := hlen
      have hnl : ((us.drop q).take (m * esz)).length = m * esz := by rw [List.length_take, List.length_drop]; omega
      refine ⟨m, l, (us.drop q).take (m * esz), h, hcl, hnl, fun w' hw' => ⟨rfl, ?_⟩⟩
      exact run_firstCells_some (P := P) w' esz m ⟨r, q, none⟩ m _ _ hnl (cells_read (w := w') (by rw [hw']; exact hh) q _ hlen)
    | @sl0 _ _ r x o' C hρ =>
      obtain ⟨us, tail, fz, hh, hc, _, _⟩ := hw.cells hb hρ
      obtain ⟨_, hcl⟩ := segsK_some hc hl
      have hnl : ((us.drop q).take (Nat.mul 0 esz)) = [] := by simp
      rw [hnl] at hcl
      refine ⟨0, l, [], by assumption, hcl, by simp, fun w' hw' => ⟨rfl, ?_⟩⟩
      have := run_firstCells_some (P := P) w' esz 0 ⟨r, o', none⟩ 0 C [] (by simp) (fun j v hj => by cases hj)
      exact this

theorem s_append {ty tx el e' : TypeId} {s x : Operand} {s' x' : AR} {ats : Array TypeId} {i : TypeInfo} {zv : Value} {esz bytes : Nat} (ho : o.op = .call { callee := .builtin .append, args := #[s, x], argTypes := ats }) (ha : ats[0]? = some ty) (ha1 : ats[1]? = some tx) (hu : P.underlying ty = some (.slice el)) (hux : P.underlying tx = some (.slice e') ∨ P.underlying tx = some .string)
    (hi : P.info? el = some i) (hz : i.zero = some zv) (hzs : zv.cells.size = esz) (hes : i.size = esz) (hby : i.bytes = bytes) (hs : ofOperand s = some s') (hx : ofOperand x = some x') (he : EvRel ρ t e) (hw : WRel base ρ S w)
    (h : kAppend el esz bytes s' x' t S c = some z) : OpPost base P ρ S e o w c z := by
  have hds := he s s' hs
  have hdx := he x x' hx
  obtain ⟨m, l, news, h, hcl, hnl, hrun⟩ := more_some (P := P) h hdx hw
  subst hes
  obtain ⟨hlx, hfx⟩ := hrun w rfl
  obtain ⟨_, hfx'⟩ := hrun w.drew rfl
  have fin : ∀ {u : Value} {w' : World}, (Builtin.append_ ats o.type #[e s, e x]).run P w = .ok u w' → (execOp e o).run P w = .ok (.value u) w' := fun hr => by
    simp [execOp, ho, resolve, invoke, builtin, hr]
  -- a new row
  have hnew : ∀ (S1 : AS) (bs : Option Addr) (sLen sCap : Nat) (olds : List Value) (oc : List AV), WRel base ρ S1 w → Keep ρ ρ S S1 → e s = .slice bs sLen sCap → olds.length = sLen * i.size → Cells ρ oc olds → (Builtin.firstCells i.size sLen (.slice bs sLen sCap)).run P w.drew = .ok olds.toArray w.drew →
      sCap < sLen + m → sLen + m ≤ 4611686018427387904 → (sLen + m) * i.bytes ≤ 140737488355328 → ∀ f, c (.sl S1.next 0 (sLen + m) (sLen + m) true) { heap := S1.heap.setK (some (.cells el i.size (joinK f oc l))) S1.next, next := Nat.succ S1.next } = some z → OpPost base P ρ S e o w c z := by
    intro S1 bs sLen sCap olds oc hw1 hk1 hes hol hoc hfo hg h63 h48 f hc
    have hrn := run_append_grow' (P := P) (w := w) hu hux hi hz o.type ats ha ha1 hlx hfo hfx' hg h63 h48
    have hge : sLen + m ≤ grownCap w (sLen + m) sCap el := Nat.le_add_right _ _
    have hle := Rho.le_add (r := (w.drew.heap.size, grownCap w (sLen + m) sCap el - (sLen + m))) (hw1.dom _ (Nat.le_refl _))
    have hcs := joinK_cells f hoc hcl
    have hw2 := hw1.drew.alloc (.cells el i.size (joinK f oc l)) (.cells (olds ++ (news ++ (List.replicate (grownCap w (sLen + m) sCap el - (sLen + m)) zv.cells.toList).flatten)).toArray el) (grownCap w (sLen + m) sCap el - (sLen + m)) (by
      have := ORel.cells (ρ := ρ.add S1.next (w.drew.heap.size, grownCap w (sLen + m) sCap el - (sLen + m))) (x := grownCap w (sLen + m) sCap el - (sLen + m)) (e := el) (z := i.size) (fz := (0, 0)) (hcs.mono hle) (tail := (List.replicate (grownCap w (sLen + m) sCap el - (sLen + m)) zv.cells.toList).flatten) (by simp [hzs]) (.inl rfl)
      rwa [List.append_assoc] at this)
    refine ⟨_, _, _, _, _, hc, hle, hk1.trans .new, hw2, ?_, .inl (fin (by rw [hes]; exact hrn))⟩
    have := Den.sl (ρ := ρ.add S1.next (w.drew.heap.size, grownCap w (sLen + m) sCap el - (sLen + m))) (b := S1.next) (o := 0) (len := sLen + m) (cap := sLen + m) (op := true) (Rho.add_same _ _ _)
    rw [if_pos rfl, show sLen + m + (grownCap w (sLen + m) sCap el - (sLen + m)) = grownCap w (sLen + m) sCap el by omega] at this
    exact this
  rcases ifB_or h with ⟨k1, h⟩ | ⟨_, h⟩
  · have hnil := isSnil_true k1
    rw [hnil] at hds
    generalize hes : e s = vs at hds fin hnew
    cases hds
    rcases ifB_or h with ⟨k2, h⟩ | ⟨k2, h⟩
    · have := beq_true k2
      subst this
      refine (OpVal.pure h hw .snil (fin ?_)).post hw
      exact run_append_room' (w' := w) hu hux hi o.type ats ha ha1 hlx hfx (by omega) rfl
    · obtain ⟨k3, h⟩ := ifB_some h
      have hm0 := beq_false k2
      obtain ⟨k4, k5⟩ := ifB_bool k3
      have k4 := ble_true k4
      have k5 : m * bytes ≤ 140737488355328 := ble_true k5
      have h := newK_some h
      have := hnew S none 0 0 [] [] hw (.refl ρ S) rfl (by simp) .nil rfl (by omega) (by omega) (by rw [hby]; simpa using k5) false
      simp only [Nat.zero_add] at this
      exact this h
  · obtain ⟨b, q, n, cap, op, hvs, h⟩ := onSl_some h
    rcases ifB_or h with ⟨_, h⟩ | ⟨hz0, h⟩
    · cases h
    rw [forceN_eq] at h
    obtain ⟨el1, es, cs, hb, h⟩ := onCells_some h
    rw [hvs] at hds
    generalize hes : e s = vs at hds fin hnew
    cases hds with
    | sl0 => exact Bool.noConfusion (show true = false from hz0)
    | @sl _ _ _ _ r xx _ hρ =>
      obtain ⟨us, tail, fz, hh, hc, ht, hf⟩ := hw.cells hb hρ
      have hC : cap ≤ (if op = true then cap + xx else cap) := by split <;> omega
      rcases ifB_or h with ⟨k1, h⟩ | ⟨k1, h⟩
      · have k1 : n + m ≤ cap := ble_true k1
        rcases ifB_or h with ⟨k2, h⟩ | ⟨k2, h⟩
        · have := beq_true k2
          subst this
          have hnews : news = [] := List.eq_nil_of_length_eq_zero (by omega)
          subst hnews
          refine (OpVal.pure (u := .slice (some ⟨r, q, none⟩) (n + 0) (if op = true then cap + xx else cap)) h hw (.sl hρ) (fin ?_)).post hw
          exact run_append_room' (w' := w) hu hux hi o.type ats ha ha1 hlx hfx (by omega) rfl
        · obtain ⟨cs', hcs, h⟩ := onSome_some h
          obtain ⟨h1, h2⟩ := setSegsK_some hc hcl hnl hcs
          have h1 : q + n * i.size + m * i.size ≤ us.length := h1
          have h2 : Cells ρ cs' (us.take (q + n * i.size) ++ news ++ us.drop (q + n * i.size + m * i.size)) := h2
          have hst := cells_write (P := P) hh hf (q + n * i.size) news (by rw [hnl, List.length_append]; omega) (fun v hv => hcl.oneCell v hv)
          have e1 : (us ++ tail).take (q + n * i.size) ++ news ++ (us ++ tail).drop (q + n * i.size + news.length) = (us.take (q + n * i.size) ++ news ++ us.drop (q + n * i.size + m * i.size)) ++ tail := by
            rw [hnl, List.take_append_of_le_length (by omega), List.drop_append_of_le_length (by omega)]
            simp
          rw [e1] at hst
          have hlen3 : (us.take (q + n * i.size) ++ news ++ us.drop (q + n * i.size + m * i.size)).length = us.length := by
            rw [List.length_append, List.length_append, hnl, List.length_take, List.length_drop]; omega
          refine ⟨_, _, ρ, _, .slice (some ⟨r, q, none⟩) (n + m) (if op = true then cap + xx else cap), h, ρ.le_refl, .put hρ, hw.put ⟨_, hb⟩ hρ (.cells h2 ht (by rw [hlen3]; exact hf)), .sl hρ, .inl (fin ?_)⟩
          refine run_append_room' hu hux hi o.type ats ha ha1 hlx hfx (by omega) ?_
          show (storeCells ((⟨r, q, none⟩ : Addr).add (n * i.size)) news).run P w = _
          rw [Addr.add_mid]
          exact hst
      · have k1 : cap < n + m := ble_false k1
        obtain ⟨k3, h⟩ := ifB_some h
        obtain ⟨k4, k5⟩ := ifB_bool k3
        have k4 : n + m ≤ 4611686018427387904 := ble_true k4
        have k5 : (n + m) * i.bytes ≤ 140737488355328 := by rw [hby]; exact ble_true k5
        rcases ifB_or h with ⟨hop, h⟩ | ⟨hop, h⟩
        · subst hop
          obtain ⟨c1, h⟩ := ifB_some h
          obtain ⟨c2, h⟩ := ifB_some h
          obtain ⟨c3, h⟩ := ifB_some h
          obtain ⟨c4, h⟩ := ifB_some h
          obtain ⟨c6, c7⟩ := ifB_bool c1
          have c0 : el1 = el := beq_true c6
          have c5 := beq_true c7
          have c2 := beq_true c2
          have c3 := beq_true c3
          have c4 : widths cs = n * i.size := beq_true c4
          have h9 := newK_some h
          clear c6 c7 c1; subst c0; subst c5; subst c2; subst c3
          rw [widths_eq hc] at c4
          rw [if_pos rfl] at hes fin hnew hC
          have hww := hw.del b
          rcases Nat.lt_or_ge (n + xx) (n + m) with hg | hg
          · -- a new row
            have hfo := run_firstCells_some (P := P) w.drew i.size n ⟨r, 0, none⟩ n (n + xx) us c4 (fun j v hv => by
              have := cells_read (w := w.drew) (q := 0) (n := n * i.size) hh (by omega) j v
              rw [List.drop_zero, List.take_of_length_le (by omega)] at this
              exact this hv)
            exact hnew (S.del b) _ n (n + xx) us cs hww (.del hρ) rfl c4 hc hfo hg (by omega) (by omega) _ h9
          · -- in place, whatever room there is
            have hml : m * i.size ≤ tail.length := by rw [ht]; exact Nat.mul_le_mul_right _ (by omega)
            have hst := cells_write (P := P) hh hf (n * i.size) news (by rw [hnl, List.length_append]; omega) (fun v hv => hcl.oneCell v hv)
            have e1 : (us ++ tail).take (n * i.size) ++ news ++ (us ++ tail).drop (n * i.size + news.length) = (us ++ news) ++ tail.drop (m * i.size) := by
              rw [hnl, ← c4, List.take_left, List.drop_append, List.drop_of_length_le (by omega), List.nil_append]
              congr 2
              omega
            rw [e1] at hst
            have hr := hw.rng _ _ _ hρ
            have hfree : ∀ cc y, (S.del b).live cc → ρ cc = some (r, y) → False := fun cc y hl ec => by
              obtain ⟨h1, h2⟩ := AS.live_del hl
              exact h1 (hw.inj cc b r y xx h2 ⟨_, hb⟩ ec hρ)
            have hle := Rho.le_add (r := (r, xx - m)) (hww.dom _ (Nat.le_refl _))
            have hjc := joinK_cells (Nat.beq i.size 1) hc hcl
            have htl : (tail.drop (m * i.size)).length = (xx - m) * i.size := by rw [List.length_drop, ht, Nat.sub_mul]
            have hll : (us ++ news).length = n * i.size + m * i.size := by rw [List.length_append, c4, hnl]
            have hw2 := hww.link (x := xx - m) (o := .cells el1 i.size (joinK (Nat.beq i.size 1) cs l)) (u := .cells ((us ++ news) ++ tail.drop (m * i.size)).toArray el1 fz) hr hfree (.cells (hjc.mono hle) htl (by
              have : (us ++ news).length + (tail.drop (m * i.size)).length = us.length + tail.length := by rw [hll, List.length_drop]; omega
              rw [this]; exact hf))
            refine ⟨_, _, _, _, .slice (some ⟨r, 0, none⟩) (n + m) (n + xx), h9, hle, (Keep.del hρ).trans .new, hw2, ?_, .inl (fin ?_)⟩
            · have := Den.sl (ρ := ρ.add (S.del b).next (r, xx - m)) (b := (S.del b).next) (o := 0) (len := n + m) (cap := n + m) (op := true) (Rho.add_same _ _ _)
              rw [if_pos rfl, show n + m + (xx - m) = n + xx by omega] at this
              exact this
            · refine run_append_room' hu hux hi o.type ats ha ha1 hlx hfx (by omega) ?_
              show (storeCells ((⟨r, 0, none⟩ : Addr).add (n * i.size)) news).run P w = _
              rw [Addr.add_mid, Nat.zero_add]
              exact hst
        · subst hop
          obtain ⟨old, hold, h⟩ := onSome_some h
          have h := newK_some h
          obtain ⟨hlen, hco⟩ := segsK_some hc hold
          have hlen : q + n * i.size ≤ us.length := hlen
          have hol : ((us.drop q).take (n * i.size)).length = n * i.size := by rw [List.length_take, List.length_drop]; omega
          have hfo := run_firstCells_some (P := P) w.drew i.size n ⟨r, q, none⟩ n cap ((us.drop q).take (n * i.size)) hol (cells_read (w := w.drew) hh q _ hlen)
          have e0 : (if false = true then cap + xx else cap) = cap := rfl
          rw [e0] at hes fin hnew
          exact hnew S _ n cap _ old hw (.refl ρ S) rfl hol hco hfo k1 (by omega) (by omega) _ h
end Go.Proofs.YtpllompnfhpfmaaGreatDoor.Exe
namespace Go.Proofs.YtpllompnfhpfmaaGreatDoor.Exe
open Go
variable {Lg : Laid} {base : Base Lg} {w : World} {P : Program} {ρ : Rho} {S : AS} {t : T} {e : Operand → Value} {o : Oper} {c : K} {z : AV × Option AS}

/-- A call of a function that is told by its number, by a value, by an interface's method; or one put off. -/
def IsCallOp (o : Oper) : Prop := match o.op with
  | .call { callee := .builtin _, .. } => False
  | .call _ | .defer _ | .next _ false => True
  | _ => False
/-- An operation of ours does what the program's does. -/
def Sound (Lg : Laid) (P : Program) (o : Oper) (a : AO) : Prop :=
  (isVal a = true ∧ ∀ (base : Base Lg) (ρ : Rho) (S : AS) (e : Operand → Value) (w : World) (t : T) (c : K) (z : AV × Option AS), EvRel ρ t e → WRel base ρ S w → opK a t S c = some z → OpVal P ρ S e o w c z) ∨
  (isVal a = false ∧ isMk a = true ∧ ∀ (t : T) (S : AS) (c : K) (z : AV × Option AS), opK a t S c = some z → ∃ ob vf, (∀ S c, opK a t S c = newK S ob fun b S => c (vf b) S) ∧ ∀ ρ e w, EvRel ρ t e → OpMk P ρ e o w ob vf) ∨
  (isVal a = false ∧ isMk a = false ∧ (isCall a = true → IsCallOp o) ∧ ∀ (base : Base Lg) (ρ : Rho) (S : AS) (e : Operand → Value) (w : World) (t : T) (c : K) (z : AV × Option AS), EvRel ρ t e → WRel base ρ S w → opK a t S c = some z → OpPost base P ρ S e o w c z)

theorem Sound.post {a : AO} (h : Sound Lg P o a) (he : EvRel ρ t e) (hw : WRel base ρ S w) (hc : opK a t S c = some z) : OpPost base P ρ S e o w c z := by
  rcases h with ⟨_, h⟩ | ⟨_, _, h⟩ | ⟨_, _, _, h⟩
  · exact (h base ρ S e w t c z he hw hc).post hw
  · obtain ⟨ob, vf, h1, h2⟩ := h t S c z hc
    exact (h2 ρ e w he).post hw (by rw [← h1]; exact hc)
  · exact h base ρ S e w t c z he hw hc

theorem known_some {ty : TypeId} (h : known P ty = true) : ∃ d, P.underlying ty = some d ∧ (P.info? ty).map (·.size) = some (sizeT P ty) := by
  unfold known at h
  cases hu : P.underlying ty with
  | none => rw [hu] at h; cases h
  | some d =>
    obtain ⟨i, hi⟩ := info_under hu
    exact ⟨d, rfl, by unfold sizeT; rw [hi]; rfl⟩
theorem bif_some {A : Type} {b : Bool} {x : Option A} {r : A} (h : (bif b then x else none) = some r) : b = true ∧ x = some r := by
  cases b with
  | true => exact ⟨rfl, h⟩
  | false => cases h
theorem bif_none {A : Type} {b : Bool} {x : Option A} {r : A} (h : (bif b then none else x) = some r) : b = false ∧ x = some r := by
  cases b with
  | true => cases h
  | false => exact ⟨rfl, h⟩
theorem bind_some {A B : Type} {x : Option A} {f : A → Option B} {r : B} (h : x.bind f = some r) : ∃ a, x = some a ∧ f a = some r := Option.bind_eq_some_iff.1 h
theorem map_some {A B : Type} {x : Option A} {f : A → B} {r : B} (h : x.map f = some r) : ∃ a, x = some a ∧ f a = r := Option.map_eq_some_iff.1 h

theorem strKey_some {kt : TypeId} {s : Nat} (h : strKey P kt = some s) : ∃ d, P.underlying kt = some d ∧ KeyDesc s d := by
  unfold strKey at h
  split at h
  · rename_i hu; cases h; exact ⟨_, hu, .inl ⟨rfl, rfl⟩⟩
  · rename_i k hu; cases h; exact ⟨_, hu, .inr ⟨rfl, _, rfl⟩⟩
  · cases h
theorem keyOf_some {ty : TypeId} {s : Nat} (h : keyOf P ty = some s) : ∃ kt el d, P.underlying ty = some (.map kt el) ∧ P.underlying kt = some d ∧ KeyDesc s d := by
  unfold keyOf at h
  split at h
  · rename_i kt el hu
    obtain ⟨d, h1, h2⟩ := strKey_some h
    exact ⟨kt, el, d, hu, h1, h2⟩
  · cases h
theorem keyUp_some {ty : TypeId} {s : Nat} (h : keyUp P ty = some s) : (∃ kt el d, P.underlying ty = some (.map kt el) ∧ P.underlying kt = some d ∧ KeyDesc s d) ∨ ∃ kt el fs n, P.underlying ty = some (.map kt el) ∧ P.underlying kt = some (.struct fs) ∧ intFields P fs.toList = some n ∧ s = 2 + n := by
  unfold keyUp at h
  split at h
  · rename_i kt el hu
    split at h
    · rename_i fs hk
      obtain ⟨n, hn, rfl⟩ := map_some h
      exact .inr ⟨kt, el, fs, n, hu, hk, hn, rfl⟩
    · obtain ⟨d, h1, h2⟩ := strKey_some h
      exact .inl ⟨kt, el, d, hu, h1, h2⟩
  · cases h
theorem ofOperands_one {args : Array Operand} {x : AR} (h : ofOperands args.toList = some [x]) : ∃ y, args = #[y] ∧ ofOperand y = some x := by
  obtain ⟨l⟩ := args
  cases l with
  | nil => cases h
  | cons y r =>
    obtain ⟨a, ha, h⟩ := bind_some (show (ofOperand y).bind _ = _ from h)
    obtain ⟨as, has, h⟩ := map_some h
    cases h
    cases r with
    | nil => exact ⟨y, rfl, ha⟩
    | cons q r' =>
      obtain ⟨a', _, h⟩ := bind_some (show (ofOperand q).bind _ = _ from has)
      obtain ⟨_, _, h⟩ := map_some h
      cases h
theorem ofOperands_two {args : Array Operand} {x x2 : AR} (h : ofOperands args.toList = some [x, x2]) : ∃ y y2, args = #[y, y2] ∧ ofOperand y = some x ∧ ofOperand y2 = some x2 := by
  obtain ⟨l⟩ := args
  cases l with
  | nil => cases h
  | cons y r =>
    obtain ⟨a, ha, h⟩ := bind_some (show (ofOperand y).bind _ = _ from h)
    obtain ⟨as, has, h⟩ := map_some h
    cases h
    obtain ⟨y2, e2, h2⟩ := ofOperands_one (args := ⟨r⟩) has
    cases e2
    exact ⟨y, y2, rfl, ha, h2⟩

theorem s_makeMap' {ty k v : TypeId} {kd : IntKind} {n : Int} (ho : o.op = .makeMap ty (some (.const (.int kd n)))) (hu : P.underlying ty = some (.map k v)) (he : EvRel ρ t e) : OpMk P ρ e o w (.map [] 0) (fun b => .map b) := by
  have hd := he (.const (.int kd n)) (.const (.int kd n)) rfl
  generalize hex : e (.const (.int kd n)) = vx at hd
  have hd : Den ρ (.int kd n) vx := hd
  cases hd
  refine ⟨0, .map #[] 0, .map (some w.heap.size), w, .inl rfl, fun ρ' _ => .map .nil, fun ρ' b hρ => .map hρ, ?_⟩
  simp [execOp, ho, Instr.makeMap, newObj, hex, run_underlying hu, asInt, asIntOf]
  rfl

theorem sound_len {args : Array Operand} {ats : Array TypeId} {ty : TypeId} {dst : Option Tmp} {pos : String} {after : Array Edge} {guard : Option (Nat × Bool)} {a : AO} {l : List AR} (hl : ofOperands args.toList = some l)
    (h : compB P ats .len l = some a) : Sound Lg P { dst, op := .call { callee := .builtin .len, args, argTypes := ats }, type := ty, pos, after, guard } a := by
  cases l with
  | nil => cases h
  | cons x r =>
  cases r with
  | cons _ _ => cases h
  | nil =>
  obtain ⟨y, rfl, hy⟩ := ofOperands_one hl
  cases ha : ats[0]? with
  | none => simp [compB, ha] at h
  | some t0 =>
  cases hu : P.underlying t0 with
  | none => simp [compB, ha, hu] at h
  | some d =>
  cases d <;> simp only [compB, ha, hu, Option.bind_some] at h <;> try (cases h; done)
  case array n el => cases h; exact .inl ⟨rfl, fun base ρ S e w t c z he hw hc => s_lenConst_array (t := t) rfl ha hu hw hc⟩
  case pointer el =>
    cases hu2 : P.underlying el with
    | none => rw [hu2] at h; cases h
    | some d2 =>
      rw [hu2] at h
      cases d2 <;> try (cases h; done)
      cases h
      exact .inl ⟨rfl, fun base ρ S e w t c z he hw hc => s_lenConst_ptr (t := t) rfl ha hu hu2 hw hc⟩
  case string => cases h; exact .inl ⟨rfl, fun base ρ S e w t c z he hw hc => s_lenOf rfl ha hu (.inl ⟨rfl, rfl⟩) hy he hw hc⟩
  case slice el => cases h; exact .inl ⟨rfl, fun base ρ S e w t c z he hw hc => s_lenOf rfl ha hu (.inr (.inl ⟨⟨_, rfl⟩, rfl⟩)) hy he hw hc⟩
  case map k v => cases h; exact .inl ⟨rfl, fun base ρ S e w t c z he hw hc => s_lenOf rfl ha hu (.inr (.inr ⟨⟨_, _, rfl⟩, rfl⟩)) hy he hw hc⟩
theorem sound_append {args : Array Operand} {ats : Array TypeId} {ty : TypeId} {dst : Option Tmp} {pos : String} {after : Array Edge} {guard : Option (Nat × Bool)} {a : AO} {l : List AR} (hl : ofOperands args.toList = some l)
    (h : compB P ats .append l = some a) : Sound Lg P { dst, op := .call { callee := .builtin .append, args, argTypes := ats }, type := ty, pos, after, guard } a := by
  cases l with
  | nil => cases h
  | cons x r =>
  cases r with
  | nil => cases h
  | cons x2 r =>
  cases r with
  | cons _ _ => cases h
  | nil =>
  obtain ⟨y, y2, rfl, hy, hy2⟩ := ofOperands_two hl
  cases ha : ats[0]? with
  | none => simp [compB, ha] at h
  | some t0 =>
  cases ha1 : ats[1]? with
  | none =>
    cases hu : P.underlying t0 with
    | none => simp [compB, ha, ha1, hu] at h
    | some d => cases d <;> simp [compB, ha, ha1, hu] at h
  | some t1 =>
  cases hu : P.underlying t0 with
  | none => simp [compB, ha, hu] at h
  | some d =>
  cases hu1 : P.underlying t1 with
  | none => cases d <;> simp [compB, ha, ha1, hu, hu1] at h
  | some d1 =>
  cases d <;> simp only [compB, ha, ha1, hu, hu1, Option.bind_some] at h <;> try (cases h; done)
  case slice el =>
  have hd1 : (bif fullZero P el then some (AO.append el (sizeT P el) ((P.info? el).map (·.bytes) |>.getD 0) x x2) else none) = some a ∧ ((∃ el1, d1 = .slice el1) ∨ d1 = .string) := by
    cases d1 <;> simp only at h <;> first | exact ⟨h, .inl ⟨_, rfl⟩⟩ | exact ⟨h, .inr rfl⟩ | (cases h; done)
  obtain ⟨h, hd1⟩ := hd1
  have hu1 : P.underlying t1 = some (.slice (match d1 with | .slice e1 => e1 | _ => 0)) ∨ P.underlying t1 = some .string := by
    rcases hd1 with ⟨_, rfl⟩ | rfl
    · exact .inl hu1
    · exact .inr hu1
  obtain ⟨hf, h⟩ := bif_some h
  cases h
  refine .inr (.inr ⟨rfl, rfl, (by intro h; cases h), fun base ρ S e w t c z he hw hc => ?_⟩)
  unfold fullZero at hf
  cases hi : P.info? el with
  | none => rw [hi] at hf; cases hf
  | some i =>
    rw [hi] at hf
    cases hz : i.zero with
    | none => simp [hz] at hf
    | some zv =>
      simp only [Option.bind_some, hz] at hf
      have hf := beq_true hf
      have e1 : sizeT P el = i.size := by unfold sizeT; rw [hi]; rfl
      have e2 : ((P.info? el).map (·.bytes) |>.getD 0) = i.bytes := by rw [hi]; rfl
      have hc' : kAppend el (sizeT P el) ((P.info? el).map (·.bytes) |>.getD 0) x x2 t S c = some z := hc
      rw [e1, e2] at hc'
      exact s_append (s := y) (x := y2) (esz := i.size) (bytes := i.bytes) rfl ha ha1 hu hu1 hi hz (hf.trans e1) rfl rfl hy hy2 he hw hc'
theorem sound_min {args : Array Operand} {ats : Array TypeId} {ty : TypeId} {dst : Option Tmp} {pos : String} {after : Array Edge} {guard : Option (Nat × Bool)} {a : AO} {l : List AR} (hl : ofOperands args.toList = some l)
    (h : compB P ats .min l = some a) : Sound Lg P { dst, op := .call { callee := .builtin .min, args, argTypes := ats }, type := ty, pos, after, guard } a := by
  cases h; exact .inl ⟨rfl, fun base ρ S e w t c z he hw hc => s_minmax rfl (.inr ⟨rfl, rfl⟩) hl he hw hc⟩
theorem sound_max {args : Array Operand} {ats : Array TypeId} {ty : TypeId} {dst : Option Tmp} {pos : String} {after : Array Edge} {guard : Option (Nat × Bool)} {a : AO} {l : List AR} (hl : ofOperands args.toList = some l)
    (h : compB P ats .max l = some a) : Sound Lg P { dst, op := .call { callee := .builtin .max, args, argTypes := ats }, type := ty, pos, after, guard } a := by
  cases h; exact .inl ⟨rfl, fun base ρ S e w t c z he hw hc => s_minmax rfl (.inl ⟨rfl, rfl⟩) hl he hw hc⟩
theorem sound_delete {args : Array Operand} {ats : Array TypeId} {ty : TypeId} {dst : Option Tmp} {pos : String} {after : Array Edge} {guard : Option (Nat × Bool)} {a : AO} {l : List AR} (hl : ofOperands args.toList = some l)
    (h : compB P ats .delete l = some a) : Sound Lg P { dst, op := .call { callee := .builtin .delete, args, argTypes := ats }, type := ty, pos, after, guard } a := by
  cases l with
  | nil => cases h
  | cons x r =>
  cases r with
  | nil => cases h
  | cons x2 r =>
  cases r with
  | cons _ _ => cases h
  | nil =>
  obtain ⟨y, y2, rfl, hy, hy2⟩ := ofOperands_two hl
  obtain ⟨s, hs, rfl⟩ := map_some (show ((ats[0]?).bind (keyOf P)).map (fun s => AO.delete s x x2) = some a from h)
  obtain ⟨t0, ha, hs⟩ := bind_some hs
  obtain ⟨kt, el, d, h1, h2, h3⟩ := keyOf_some hs
  exact .inr (.inr ⟨rfl, rfl, (by intro h; cases h), fun base ρ S e w t c z he hw hc => s_delete rfl ha h1 h2 h3 hy hy2 he hw hc⟩)
theorem sound_clear {args : Array Operand} {ats : Array TypeId} {ty : TypeId} {dst : Option Tmp} {pos : String} {after : Array Edge} {guard : Option (Nat × Bool)} {a : AO} {l : List AR} (hl : ofOperands args.toList = some l)
    (h : compB P ats .clear l = some a) : Sound Lg P { dst, op := .call { callee := .builtin .clear, args, argTypes := ats }, type := ty, pos, after, guard } a := by
  cases l with
  | nil => cases h
  | cons x r =>
  cases r with
  | cons _ _ => cases h
  | nil =>
  obtain ⟨y, rfl, hy⟩ := ofOperands_one hl
  cases ha : ats[0]? with
  | none => simp [compB, ha] at h
  | some t0 =>
  cases hu : P.underlying t0 with
  | none => simp [compB, ha, hu] at h
  | some d =>
  cases d <;> simp only [compB, ha, hu, Option.bind_some] at h <;> try (cases h; done)
  case slice el =>
    obtain ⟨hf, h⟩ := bif_some h
    obtain ⟨zs, hz, rfl⟩ := map_some h
    exact .inr (.inr ⟨rfl, rfl, (by intro h; cases h), fun base ρ S e w t c z he hw hc => s_clear rfl ha hu (fun _ => ⟨el, rfl, hf, hz, rfl⟩) hy he hw hc⟩)
  case map k v =>
    cases h
    exact .inr (.inr ⟨rfl, rfl, (by intro h; cases h), fun base ρ S e w t c z he hw hc => s_clear (esz := 0) (zs := []) rfl ha hu (fun h => absurd h (by omega)) hy he hw hc⟩)
theorem sound_copy {args : Array Operand} {ats : Array TypeId} {ty : TypeId} {dst : Option Tmp} {pos : String} {after : Array Edge} {guard : Option (Nat × Bool)} {a : AO} {l : List AR} (hl : ofOperands args.toList = some l)
    (h : compB P ats .copy l = some a) : Sound Lg P { dst, op := .call { callee := .builtin .copy, args, argTypes := ats }, type := ty, pos, after, guard } a := by
  cases l with
  | nil => cases h
  | cons x r =>
  cases r with
  | nil => cases h
  | cons x2 r =>
  cases r with
  | cons _ _ => cases h
  | nil =>
  obtain ⟨y, y2, rfl, hy, hy2⟩ := ofOperands_two hl
  cases ha : ats[0]? with
  | none => simp [compB, ha] at h
  | some t0 =>
  cases hu : P.underlying t0 with
  | none => simp [compB, ha, hu] at h
  | some d =>
  cases d <;> simp only [compB, ha, hu, Option.bind_some] at h <;> try (cases h; done)
  case slice el =>
    obtain ⟨hk, h⟩ := bif_some h
    cases h
    obtain ⟨_, _, hn⟩ := known_some hk
    exact .inr (.inr ⟨rfl, rfl, (by intro h; cases h), fun base ρ S e w t c z he hw hc => s_copy rfl ha hu hn hy hy2 he hw hc⟩)
theorem sound_call {b : Builtin} {args : Array Operand} {ats : Array TypeId} {ty : TypeId} {dst : Option Tmp} {pos : String} {after : Array Edge} {guard : Option (Nat × Bool)} {a : AO}
    (h0 : compOp? P { dst, op := .call { callee := .builtin b, args, argTypes := ats }, type := ty, pos, after, guard } = some a) : Sound Lg P { dst, op := .call { callee := .builtin b, args, argTypes := ats }, type := ty, pos, after, guard } a := by
  obtain ⟨l, hl, h⟩ := bind_some (show (ofOperands args.toList).bind (compB P ats b) = some a from h0)
  clear h0
  cases b with
  | len => exact sound_len hl h
  | append => exact sound_append hl h
  | min => exact sound_min hl h
  | max => exact sound_max hl h
  | delete => exact sound_delete hl h
  | clear => exact sound_clear hl h
  | copy => exact sound_copy hl h
  | _ => cases h
end Go.Proofs.YtpllompnfhpfmaaGreatDoor.Exe
namespace Go.Proofs.YtpllompnfhpfmaaGreatDoor.Exe
open Go
variable {Lg : Laid} {base : Base Lg} {w : World} {P : Program} {ρ : Rho} {S : AS} {t : T} {e : Operand → Value} {o : Oper} {c : K} {z : AV × Option AS}

/-! ### A range over a map -/
theorem nilNo_three {v : AV} (h : Nat.beq (nilNo v) 3 = true) : v = .mnil := by
  cases v <;> first | rfl | cases h
theorem onIter_some {b : Nat} {k : Option Nat → Nat → List Nat → Nat → R} (h : onIter S b k = some z) : ∃ m since seen last, S.heap.getK b = some (.iter m since seen last) ∧ k m since seen last = some z := by
  obtain ⟨o, ho, h⟩ := onSome_some h
  cases o with
  | iter m since seen last => exact ⟨m, since, seen, last, ho, h⟩
  | _ => exact absurd h (by intro h; cases h)
theorem Ents.of_mem : ∀ {es : List (AV × AV × Nat)} {ms : List MapEntry}, Ents ρ es ms → ∀ m ∈ ms, ∃ x ∈ es, Den ρ x.1 m.key ∧ Den ρ x.2.1 m.val ∧ m.born = x.2.2
  | _, _, .nil, _, h => by cases h
  | _, _, .cons a b c d, m, h => by
    rcases List.mem_cons.1 h with rfl | h
    · exact ⟨_, List.mem_cons_self, a, b, c⟩
    · obtain ⟨x, hx, r⟩ := d.of_mem m h
      exact ⟨x, List.mem_cons_of_mem _ hx, r⟩
theorem Ents.mem_of : ∀ {es : List (AV × AV × Nat)} {ms : List MapEntry}, Ents ρ es ms → ∀ x ∈ es, ∃ m ∈ ms, m.born = x.2.2
  | _, _, .nil, _, h => by cases h
  | _, _, .cons a b c d, x, h => by
    rcases List.mem_cons.1 h with rfl | h
    · exact ⟨_, List.mem_cons_self, c⟩
    · obtain ⟨m, hm, r⟩ := d.mem_of x h
      exact ⟨m, List.mem_cons_of_mem _ hm, r⟩
theorem s_mrange {ty kt el : TypeId} {x : Operand} {x' : AR} (ho : o.op = .range ty x) (hu : P.underlying ty = some (.map kt el)) (hx : ofOperand x = some x') (he : EvRel ρ t e) (hw : WRel base ρ S w) (h : kMRange x' t S c = some z) : OpPost base P ρ S e o w c z := by
  have hdx := he x x' hx
  have hle := Rho.le_add (r := (w.heap.size, 0)) (hw.dom _ (Nat.le_refl _))
  rcases ifB_or (show ifB (Nat.beq (nilNo (ev x' t)) 3) _ (onMap (ev x' t) _) = some z from h) with ⟨hn, h⟩ | ⟨_, h⟩
  · rw [nilNo_three hn] at hdx
    generalize hex : e x = ex at hdx
    cases hdx
    refine ⟨_, _, _, _, _, newK_some h, hle, .new, hw.alloc _ (.mapIter none 0 #[] 0) 0 (.iter (seen := []) trivial), .ptr (Rho.add_same _ _ _), .inl ?_⟩
    simp [execOp, ho, hex, run_range_nilMap w ty kt el hu]
  · obtain ⟨b, hv, h⟩ := onMap_some h
    obtain ⟨es, cl, hb, h⟩ := onMapO_some h
    rw [hv] at hdx
    generalize hex : e x = ex at hdx
    cases hdx with
    | @map _ r q hρ =>
      obtain ⟨ms, hms, hE⟩ := hw.map hb hρ
      refine ⟨_, _, _, _, _, newK_some h, hle, .new, hw.alloc _ (.mapIter (some r) cl #[] cl) 0 (.iter (seen := []) ⟨q, hle _ _ hρ⟩), .ptr (Rho.add_same _ _ _), .inl ?_⟩
      simp [execOp, ho, hex, run_range_map w ty kt el r ms.toArray cl hu hms]
theorem next_ok {v : AV} {ux : Value} (hdx : Den ρ v ux) (hw : WRel base ρ S w) (h : nextV v S c = some z) :
    ∃ v1 S' ρ' w' u, c v1 S' = some z ∧ ρ.le ρ' ∧ Keep ρ ρ' S S' ∧ WRel base ρ' S' w' ∧ Den ρ' v1 u ∧ ∀ ty, (Instr.next ux false ty).run P w = .ok u w' := by
  obtain ⟨b, q, hv, h⟩ := onPtr_some h
  obtain ⟨hq, h⟩ := ifB_some h
  have hq := beq_true hq
  subst hq
  obtain ⟨m, since, seen, last, hb, h⟩ := onIter_some h
  rw [hv] at hdx
  cases hdx with
  | @ptr _ _ r q hρ =>
    obtain ⟨u, hu, hrel⟩ := hw.obj b _ r q hb hρ
    cases hrel with
    | @iter _ m' _ _ _ hm =>
      cases m with
      | none =>
        cases m' with
        | some _ => exact hm.elim
        | none =>
          refine ⟨_, _, ρ, w, _, h, ρ.le_refl, .refl ρ S, hw, .tup (.cons (.bool false) .nil), fun ty => ?_⟩
          simp [Instr.next, getObj, Sem.run, hu, Result.andThen]
      | some mb =>
        cases m' with
        | none => exact hm.elim
        | some rm =>
          obtain ⟨qm, hρm⟩ := hm
          obtain ⟨es, cl, hmb, h⟩ := onMapO_some (show onMapO S mb _ = some z from h)
          obtain ⟨hsl, h⟩ := ifB_some h
          obtain ⟨hold, h⟩ := ifB_some h
          obtain ⟨ms, hms, hE⟩ := hw.map hmb hρm
          have hold' : ∀ y ∈ ms.toArray.toList, y.born < since := fun y hy => by
            obtain ⟨e1, he1, _, _, hb1⟩ := hE.of_mem y (by simpa using hy)
            rw [hb1]
            exact oldK_mem hold e1 he1
          rcases run_next_at (P := P) w 0 r rm since last seen.toArray ms.toArray cl hu hms hold' (ble_true hsl) with ⟨h0, hrun⟩ | ⟨y, hy, w1, hal, hrun⟩
          · have hl : leftK seen es = [] := by
              rw [leftK_eq, List.filter_eq_nil_iff]
              intro e1 he1 hc
              obtain ⟨y, hy, hby⟩ := hE.mem_of e1 he1
              have hmem : y ∈ (leftOf ms.toArray seen.toArray).toList := by
                unfold leftOf
                simp only [Array.toList_filter]
                refine List.mem_filter.2 ⟨by simpa using hy, ?_⟩
                rw [hby]
                simpa using hc
              have : (leftOf ms.toArray seen.toArray).toList = [] := List.length_eq_zero_iff.1 (by rw [Array.length_toList]; exact h0)
              rw [this] at hmem
              cases hmem
            rw [hl] at h
            refine ⟨_, _, ρ, w, _, h, ρ.le_refl, .refl ρ S, hw, .tup (.cons (.bool false) .nil), fun ty => hrun⟩
          · have hy' : y ∈ ms ∧ seen.contains y.born = false := by
              unfold leftOf at hy
              simp only [Array.toList_filter] at hy
              obtain ⟨h1, h2⟩ := List.mem_filter.1 hy
              exact ⟨by simpa using h1, by simpa using h2⟩
            obtain ⟨e1, he1, hk1, hv1, hb1⟩ := hE.of_mem y hy'.1
            have hmem : e1 ∈ leftK seen es := by
              rw [leftK_eq]
              refine List.mem_filter.2 ⟨he1, ?_⟩
              rw [← hb1, hy'.2]
              rfl
            have hc := branchK_mem h e1 hmem
            have hput : WRel base ρ (putK S b (.iter (some mb) since (List.append seen [e1.2.2]) cl)) (w1.putObj r (.mapIter (some rm) since (seen.toArray.push y.born) cl)) := by
              have ho2 : ORel ρ q (.iter (some mb) since (List.append seen [e1.2.2]) cl) (.mapIter (some rm) since (seen.toArray.push y.born) cl) := by
                have : seen.toArray.push y.born = (List.append seen [e1.2.2]).toArray := by
                  rw [hb1]
                  show seen.toArray.push e1.2.2 = (seen ++ [e1.2.2]).toArray
                  simp
                rw [this]
                exact .iter ⟨qm, hρm⟩
              rcases hal with rfl | rfl
              · exact hw.put ⟨_, hb⟩ hρ ho2
              · exact hw.drew.put ⟨_, hb⟩ hρ ho2
            refine ⟨_, _, ρ, _, _, hc, ρ.le_refl, .put hρ, hput, .tup (.cons (.bool true) (.cons hk1 (.cons hv1 .nil))), fun ty => hrun⟩
theorem born_rel : ∀ {es : List (AV × AV × Nat)} {ms : List MapEntry} {n : Nat} {x : AV × AV × Nat}, Ents ρ es ms → bornK n es = some x → ∃ m, ms.find? (·.born == n) = some m ∧ Den ρ x.1 m.key ∧ Den ρ x.2.1 m.val
  | _, _, _, _, .nil, h => by cases h
  | (k, v, b) :: es, m :: ms, n, x, .cons d1 d2 d3 d4, h => by
    rcases ifB_or (show ifB (Nat.beq b n) (some (k, v, b)) (bornK n es) = some x from h) with ⟨h1, h2⟩ | ⟨h1, h2⟩
    · cases h2
      have hb := beq_true h1
      exact ⟨m, by rw [List.find?_cons]; simp [d3, hb], d1, d2⟩
    · obtain ⟨m', g1, g2⟩ := born_rel d4 h2
      refine ⟨m', ?_, g2⟩
      have hne : (m.born == n) = false := by
        rw [d3]
        cases hq : b == n with
        | false => rfl
        | true => rw [beq_iff_eq.1 hq] at h1; simp at h1
      rw [List.find?_cons, hne]
      exact g1
theorem s_mentry {x : Operand} {x' : AR} (ho : o.op = .entry x) (hx : ofOperand x = some x') (he : EvRel ρ t e) (hw : WRel base ρ S w) (h : kMEntry x' t S c = some z) : OpVal P ρ S e o w c z := by
  have hdx := he x x' hx
  obtain ⟨b, q, hv, h⟩ := onPtr_some h
  obtain ⟨hq, h⟩ := ifB_some h
  have hq := beq_true hq
  subst hq
  obtain ⟨m, since, seen, last, hb, h⟩ := onIter_some h
  rw [hv] at hdx
  generalize hex : e x = ex at hdx
  cases hdx with
  | @ptr _ _ r q hρ =>
    obtain ⟨u, hu, hrel⟩ := hw.obj b _ r q hb hρ
    cases hrel with
    | @iter _ m' _ _ _ hm =>
      cases m with
      | none => cases h
      | some mb =>
        cases m' with
        | none => exact hm.elim
        | some rm =>
          obtain ⟨qm, hρm⟩ := hm
          cases hbk : backK seen with
          | none =>
            have h : (Option.rec (motive := fun _ => R) none (fun stamp => onMapO S mb fun es clock => ifB (Nat.beq clock last) (Option.rec (motive := fun _ => R) none (fun e => c (.tup [e.1, e.2.1]) S) (bornK stamp es)) none) (backK seen) : R) = some z := h
            rw [hbk] at h
            cases h
          | some stamp =>
            have h : (Option.rec (motive := fun _ => R) none (fun stamp => onMapO S mb fun es clock => ifB (Nat.beq clock last) (Option.rec (motive := fun _ => R) none (fun e => c (.tup [e.1, e.2.1]) S) (bornK stamp es)) none) (backK seen) : R) = some z := h
            rw [hbk] at h
            obtain ⟨es, cl, hmb, h⟩ := onMapO_some (show onMapO S mb _ = some z from h)
            obtain ⟨hcl, hq2⟩ := ifB_some h
            have hcl := beq_true hcl
            subst hcl
            obtain ⟨ms, hms, hE⟩ := hw.map hmb hρm
            cases hbo : bornK stamp es with
            | none => rw [hbo] at hq2; cases hq2
            | some y =>
              rw [hbo] at hq2
              obtain ⟨me, g1, g2, g3⟩ := born_rel hE hbo
              refine .pure hq2 hw (.tup (.cons g2 (.cons g3 .nil))) ?_
              rw [backK_eq] at hbk
              have e1 : seen.toArray.back? = some stamp := by rw [List.back?_toArray]; exact hbk
              simp [execOp, ho, hex, Instr.entry, getObj, Sem.run, hu, hms, e1, g1, Result.andThen]
end Go.Proofs.YtpllompnfhpfmaaGreatDoor.Exe
namespace Go.Proofs.YtpllompnfhpfmaaGreatDoor.Exe
open Go
variable {Lg : Laid} {base : Base Lg} {w : World} {P : Program} {ρ : Rho} {S : AS} {t : T} {e : Operand → Value} {o : Oper} {c : K} {z : AV × Option AS}

theorem isCall_none {a : AO} (h : isCall a = true) : opK a t S c = none := by
  cases a <;> first | rfl | cases h

theorem isCall_class {a : AO} (h : isCall a = true) : isVal a = false ∧ isMk a = false := by
  cases a <;> first | exact ⟨rfl, rfl⟩ | cases h
theorem sound_callee {a : AO} (hc : isCall a = true) (ho : IsCallOp o) : Sound Lg P o a :=
  .inr (.inr ⟨(isCall_class hc).1, (isCall_class hc).2, fun _ => ho, fun base ρ S e w t c z he hw h => by rw [isCall_none hc] at h; cases h⟩)

theorem aggT_of_struct {ty : TypeId} {fs : Array Field} (h : P.underlying ty = some (.struct fs)) : aggT P ty = true := by unfold aggT; rw [h]
theorem aggT_of_array {ty el : TypeId} {n : Nat} (h : P.underlying ty = some (.array n el)) : aggT P ty = true := by unfold aggT; rw [h]

theorem sound_bin {op : BinOp} {ty yt : TypeId} {x y : Operand} {x' y' : AR} {a : AO} (ho : o.op = .binOp op ty x y yt) (hx : ofOperand x = some x') (hy : ofOperand y = some y') (h : compBin P op ty x' y' = some a) : Sound Lg P o a := by
  cases hu : P.underlying ty with
  | none => simp [compBin, hu] at h
  | some d =>
    cases d <;> simp only [compBin, hu] at h <;> try (cases h; done)
    case int k => cases h; exact .inl ⟨rfl, fun base ρ S e w t c z he hw hc => s_bin ho hx hy he hw hc⟩
    case string => cases h; exact .inl ⟨rfl, fun base ρ S e w t c z he hw hc => s_strOp ho hx hy he hw hc⟩
    case bool =>
      obtain ⟨n, hn, rfl⟩ := map_some h
      exact .inl ⟨rfl, fun base ρ S e w t c z he hw hc => s_eqBool ho hn hu hx hy he hw hc⟩
    case pointer el =>
      obtain ⟨n, hn, rfl⟩ := map_some h
      exact .inl ⟨rfl, fun base ρ S e w t c z he hw hc => s_eqNil ho hn hu (by simp [nilKind]) hx hy he hw hc⟩
    case slice el =>
      obtain ⟨n, hn, rfl⟩ := map_some h
      exact .inl ⟨rfl, fun base ρ S e w t c z he hw hc => s_eqNil ho hn hu (by simp [nilKind]) hx hy he hw hc⟩
    case map k v =>
      obtain ⟨n, hn, rfl⟩ := map_some h
      exact .inl ⟨rfl, fun base ρ S e w t c z he hw hc => s_eqNil ho hn hu (by simp [nilKind]) hx hy he hw hc⟩
    case func =>
      obtain ⟨n, hn, rfl⟩ := map_some h
      exact .inl ⟨rfl, fun base ρ S e w t c z he hw hc => s_eqNil ho hn hu (by simp [nilKind]) hx hy he hw hc⟩
    case interface =>
      obtain ⟨n, hn, rfl⟩ := map_some h
      exact .inl ⟨rfl, fun base ρ S e w t c z he hw hc => s_eqNil ho hn hu (by simp [nilKind]) hx hy he hw hc⟩
    case struct fs =>
      obtain ⟨hg, h⟩ := bif_none h
      obtain ⟨l, hl, h⟩ := bind_some h
      obtain ⟨n, hn, rfl⟩ := map_some h
      exact .inl ⟨rfl, fun base ρ S e w t c z he hw hc => s_eqPlain ho hn (aggT_of_struct hu) hg hl hx hy he hw hc⟩
    case array n el =>
      obtain ⟨hg, h⟩ := bif_none h
      obtain ⟨l, hl, h⟩ := bind_some h
      obtain ⟨n, hn, rfl⟩ := map_some h
      exact .inl ⟨rfl, fun base ρ S e w t c z he hw hc => s_eqPlain ho hn (aggT_of_array hu) hg hl hx hy he hw hc⟩

theorem sound_conv {sr ds : TypeId} {x : Operand} {x' : AR} {a : AO} (ho : o.op = .convert sr ds x) (hx : ofOperand x = some x') (h : compConv P sr ds x' = some a) : Sound Lg P o a := by
  cases hu : P.underlying sr with
  | none => simp [compConv, hu] at h
  | some d =>
    cases hd : P.underlying ds with
    | none => cases d <;> simp [compConv, hu, hd] at h
    | some d2 =>
      cases d <;> simp only [compConv, hu, hd] at h <;> try (cases h; done)
      case int k =>
        cases d2 <;> simp only at h <;> try (cases h; done)
        case int k2 => cases h; exact .inl ⟨rfl, fun base ρ S e w t c z he hw hc => s_toInt ho hu hd hx he hw hc⟩
      case string =>
        cases d2 <;> simp only at h <;> try (cases h; done)
        case slice el =>
          cases hel : P.underlying el with
          | none => simp [hel] at h
          | some de =>
            cases de <;> simp only [hel] at h <;> try (cases h; done)
            case int k =>
              cases k <;> simp only at h <;> try (cases h; done)
              cases h
              exact .inr (.inl ⟨rfl, rfl, fun t S c z hc => s_toBytes ho hu hd hel hx hc⟩)
      case slice el0 =>
        cases d2 <;> simp only at h <;> try (cases h; done)
        case string =>
          cases hel : P.underlying el0 with
          | none => simp [hel] at h
          | some de =>
            cases de <;> simp only [hel] at h <;> try (cases h; done)
            case int k =>
              cases k <;> simp only at h <;> try (cases h; done)
              cases h
              exact .inl ⟨rfl, fun base ρ S e w t c z he hw hc => s_toStr ho hu hd hel hx he hw hc⟩
        case slice el =>
          obtain ⟨hb, h2⟩ := bif_some h
          clear h
          have := beq_true hb
          subst this
          have h := h2
          clear h2
          cases hel : P.underlying el with
          | none => simp [hel] at h
          | some de =>
            cases de <;> simp only [hel] at h <;> try (cases h; done)
            case int k =>
              cases k <;> simp only at h <;> try (cases h; done)
              cases h
              exact .inr (.inr ⟨rfl, rfl, (by intro h; cases h), fun base ρ S e w t c z he hw hc => s_mark ho hd hel hx he hw hc⟩)

theorem sound_index {ty : TypeId} {x i : Operand} {x' i' : AR} {a : AO} (ho : o.op = .index ty x i) (hx : ofOperand x = some x') (hi : ofOperand i = some i')
    (h : (match P.underlying ty with
      | some (.array n e) => bif known P e then some (AO.ixArray n (sizeT P e) (aggT P e) x' i') else none
      | some .string => some (.ixString x' i')
      | _ => none) = some a) : Sound Lg P o a := by
  cases hu : P.underlying ty with
  | none => simp [hu] at h
  | some d =>
    cases d <;> simp only [hu] at h <;> try (cases h; done)
    case array n el =>
      obtain ⟨hk, h⟩ := bif_some h
      cases h
      obtain ⟨d, hd, hn⟩ := known_some hk
      exact .inl ⟨rfl, fun base ρ S e w t c z he hw hc => s_ixArray ho hu hd hn hx hi he hw hc⟩
    case string => cases h; exact .inl ⟨rfl, fun base ρ S e w t c z he hw hc => s_ixString ho hu hx hi he hw hc⟩

theorem sound_indexAddr {ty : TypeId} {x i : Operand} {x' i' : AR} {a : AO} (ho : o.op = .indexAddr ty x i) (hx : ofOperand x = some x') (hi : ofOperand i = some i')
    (h : (match P.underlying ty with
      | some (.array n e) => bif known P e then some (AO.atArray n (sizeT P e) x' i') else none
      | some (.slice e) => bif known P e then some (.atSlice (sizeT P e) x' i') else none
      | _ => none) = some a) : Sound Lg P o a := by
  cases hu : P.underlying ty with
  | none => simp [hu] at h
  | some d =>
    cases d <;> simp only [hu] at h <;> try (cases h; done)
    case array n el =>
      obtain ⟨hk, h⟩ := bif_some h
      cases h
      obtain ⟨d, hd, hn⟩ := known_some hk
      exact .inl ⟨rfl, fun base ρ S e w t c z he hw hc => s_atArray ho hu hn hx hi he hw hc⟩
    case slice el =>
      obtain ⟨hk, h⟩ := bif_some h
      cases h
      obtain ⟨d, hd, hn⟩ := known_some hk
      exact .inl ⟨rfl, fun base ρ S e w t c z he hw hc => s_atSlice ho hu hn hx hi he hw hc⟩

theorem sound_slice {ty : TypeId} {x : Operand} {lo hi mx : Option Operand} {x' : AR} {lo' hi' mx' : Option AR} {a : AO} (ho : o.op = .slice ty x lo hi mx) (hx : ofOperand x = some x') (hlo : ofOpt lo = some lo') (hhi : ofOpt hi = some hi') (hmx : ofOpt mx = some mx')
    (h : (match P.underlying ty with
      | some (.array n e) => bif known P e then some (AO.sliceArray n (sizeT P e) x' lo' hi' mx') else none
      | some (.slice e) => bif known P e then some (.sliceSlice (sizeT P e) x' lo' hi' mx') else none
      | some .string => strSlice x' lo' hi' mx'
      | _ => none) = some a) : Sound Lg P o a := by
  cases hu : P.underlying ty with
  | none => simp [hu] at h
  | some d =>
    cases d <;> simp only [hu] at h <;> try (cases h; done)
    case array n el =>
      obtain ⟨hk, h⟩ := bif_some h
      cases h
      obtain ⟨d, hd, hn⟩ := known_some hk
      exact .inl ⟨rfl, fun base ρ S e w t c z he hw hc => s_sliceArray ho hu hn hx hlo hhi hmx he hw hc⟩
    case slice el =>
      obtain ⟨hk, h⟩ := bif_some h
      cases h
      obtain ⟨d, hd, hn⟩ := known_some hk
      exact .inl ⟨rfl, fun base ρ S e w t c z he hw hc => s_sliceSlice ho hu hn hx hlo hhi hmx he hw hc⟩
    case string =>
      cases mx' with
      | some _ => cases h
      | none =>
        cases h
        have hmx0 : mx = none := by
          cases mx with
          | none => rfl
          | some m => obtain ⟨_, _, h⟩ := map_some (show (ofOperand m).map some = some none from hmx); cases h
        subst hmx0
        exact .inl ⟨rfl, fun base ρ S e w t c z he hw hc => s_sliceString ho hu hx hlo hhi he hw hc⟩

theorem sound_field {ty : TypeId} {x : Operand} {i : Nat} {a : AO} (ho : o.op = .field ty x i)
    (h : (match P.underlying ty with
      | some (.struct fs) => (fs[i]?).bind fun f => bif known P f.type then (ofOperand x).map fun x => AO.field (aggT P f.type) f.offset (sizeT P f.type) x else none
      | _ => none) = some a) : Sound Lg P o a := by
  cases hu : P.underlying ty with
  | none => simp [hu] at h
  | some d =>
    cases d <;> simp only [hu] at h <;> try (cases h; done)
    case struct fs =>
      obtain ⟨f, hf, h⟩ := bind_some h
      obtain ⟨hk, h⟩ := bif_some h
      obtain ⟨x', hx, rfl⟩ := map_some h
      obtain ⟨d, hd, hn⟩ := known_some hk
      exact .inl ⟨rfl, fun base ρ S e w t c z he hw hc => s_field ho hu hf hd hn hx he hw hc⟩

theorem sound_fieldAddr {ty : TypeId} {x : Operand} {i : Nat} {a : AO} (ho : o.op = .fieldAddr ty x i)
    (h : (match P.underlying ty with
      | some (.struct fs) => (fs[i]?).bind fun f => (bif Nat.beq (sizeT P f.type) 0 then none else (ofOperand x).map fun x => AO.fieldAddr f.offset x)
      | _ => none) = some a) : Sound Lg P o a := by
  cases hu : P.underlying ty with
  | none => simp [hu] at h
  | some d =>
    cases d <;> simp only [hu] at h <;> try (cases h; done)
    case struct fs =>
      obtain ⟨f, hf, h⟩ := bind_some h
      obtain ⟨hk, h⟩ := bif_none h
      obtain ⟨x', hx, rfl⟩ := map_some h
      have hk := beq_false hk
      have hs : ∃ n, (P.info? f.type).map (·.size) = some n ∧ n ≠ 0 := by
        unfold sizeT at hk
        cases hi : P.info? f.type with
        | none => rw [hi] at hk; exact absurd rfl hk
        | some ti => rw [hi] at hk; exact ⟨ti.size, rfl, hk⟩
      exact .inl ⟨rfl, fun base ρ S e w t c z he hw hc => s_fieldAddr ho hu hf hs hx he hw hc⟩

theorem sound_build {ty : TypeId} {ps : Array (Nat × Operand)} {a : AO} (ho : o.op = .build ty ps)
    (h : ((zeroOf P ty).bind fun z => (match P.underlying ty with
      | some (.struct fs) => (placesOf P fs.toList).bind fun l => partsOf (fun i => l[i]?) ps.toList
      | some (.array _ e) => (P.info? e).bind fun ie => partsOf (fun i => some (i * ie.size, ie.size)) ps.toList
      | _ => none).map fun l => AO.build z l) = some a) : Sound Lg P o a := by
  obtain ⟨zs, hz, h⟩ := bind_some h
  obtain ⟨l, hl, rfl⟩ := map_some h
  cases hu : P.underlying ty with
  | none => simp [hu] at hl
  | some d =>
    cases d <;> simp only [hu] at hl <;> try (cases hl; done)
    case struct fs =>
      obtain ⟨pl, hpl, hl⟩ := bind_some hl
      exact .inl ⟨rfl, fun base ρ S e w t c z he hw hc => s_build ho hz (fun parts zv i hi hzv => built_struct hu hpl parts zv i hi hzv) hl he hw hc⟩
    case array n el =>
      obtain ⟨ie, hie, hl⟩ := bind_some hl
      exact .inl ⟨rfl, fun base ρ S e w t c z he hw hc => s_build ho hz (fun parts zv i hi hzv => built_array hu hie parts zv i hi hzv) hl he hw hc⟩

theorem sound_buildSlice {ty : TypeId} {len : Nat} {ps : Array (Nat × Operand)} {a : AO} (ho : o.op = .buildSlice ty len ps)
    (h : (match P.underlying ty with
      | some (.slice e) => bif Nat.ble (len * sizeT P e) 16777216 && fullZero P e then (zeroOf P e).bind fun z => (partsOf (fun i => some (i * sizeT P e, sizeT P e)) ps.toList).map fun l => AO.buildSlice e (sizeT P e) len z l else none
      | _ => none) = some a) : Sound Lg P o a := by
  cases hu : P.underlying ty with
  | none => simp [hu] at h
  | some d =>
    cases d <;> simp only [hu] at h <;> try (cases h; done)
    case slice el =>
      obtain ⟨hb, h⟩ := bif_some h
      obtain ⟨zs, hz, h⟩ := bind_some h
      obtain ⟨l, hl, rfl⟩ := map_some h
      rw [Bool.and_eq_true] at hb
      exact .inr (.inl ⟨rfl, rfl, fun t S c z hc => s_buildSlice ho hu hb.2 hz (ble_true hb.1) hl hc⟩)

theorem sound_makeSlice {ty : TypeId} {l k : Operand} {a : AO} (ho : o.op = .makeSlice ty l k)
    (h : (match P.underlying ty with
      | some (.slice e) => bif fullZero P e then (zeroOf P e).bind fun z => (ofOperand l).bind fun l => (ofOperand k).map fun c => AO.makeSlice e (sizeT P e) ((P.info? e).map (·.bytes) |>.getD 0) z l c else none
      | _ => none) = some a) : Sound Lg P o a := by
  cases hu : P.underlying ty with
  | none => simp [hu] at h
  | some d =>
    cases d <;> simp only [hu] at h <;> try (cases h; done)
    case slice el =>
      obtain ⟨hb, h⟩ := bif_some h
      obtain ⟨zs, hz, h⟩ := bind_some h
      obtain ⟨l', hl, h⟩ := bind_some h
      obtain ⟨k', hk, rfl⟩ := map_some h
      obtain ⟨i, zv, hi, _⟩ := zeroOf_some (ρ := fun _ => none) hz
      refine .inr (.inl ⟨rfl, rfl, fun t S c z hc => s_makeSlice ho hu hb hz ?_ hl hk hc⟩)
      rw [hi]
      rfl

theorem sound_lookup {ty : TypeId} {x i : Operand} {ok : Bool} {a : AO} (ho : o.op = .lookup ty x i ok)
    (h : (match P.underlying ty with
      | some (.map kt e) => (strKey P kt).bind fun s => ((P.info? e).bind (·.zero)).bind fun z => (ofValue z).bind fun z => (ofOperand x).bind fun x => (ofOperand i).map fun i => AO.lookup s z x i ok
      | _ => none) = some a) : Sound Lg P o a := by
  cases hu : P.underlying ty with
  | none => simp [hu] at h
  | some d =>
    cases d <;> simp only [hu] at h <;> try (cases h; done)
    case map kt el =>
      obtain ⟨s, hs, h⟩ := bind_some h
      obtain ⟨zv, hz, h⟩ := bind_some h
      obtain ⟨za, hza, h⟩ := bind_some h
      obtain ⟨x', hx, h⟩ := bind_some h
      obtain ⟨i', hix, rfl⟩ := map_some h
      obtain ⟨ti, hi, hz⟩ := bind_some hz
      obtain ⟨d, h1, h2⟩ := strKey_some hs
      exact .inl ⟨rfl, fun base ρ S e w t c z he hw hc => s_lookup ho hu h1 h2 hi hz hza hx hix he hw hc⟩

theorem sound_of {a : AO} (h : compOp? P o = some a) : Sound Lg P o a := by
  obtain ⟨dst, op, type, pos, after, guard⟩ := o
  cases op with
  | move x =>
    obtain ⟨y, hy, rfl⟩ := map_some (show (ofOperand x).map AO.mv = some a from h)
    exact .inl ⟨rfl, fun base ρ S e w t c z he hw hc => s_move (.inl rfl) hy he hw hc⟩
  | assign x =>
    obtain ⟨y, hy, rfl⟩ := map_some (show (ofOperand x).map AO.mv = some a from h)
    exact .inl ⟨rfl, fun base ρ S e w t c z he hw hc => s_move (.inr rfl) hy he hw hc⟩
  | pick x y1 y2 =>
    obtain ⟨x', hx, h⟩ := bind_some (show (ofOperand x).bind (fun c => (ofOperand y1).bind fun a => (ofOperand y2).map fun b => AO.pick c a b) = some a from h)
    obtain ⟨a', ha, h⟩ := bind_some h
    obtain ⟨b', hb, rfl⟩ := map_some h
    exact .inl ⟨rfl, fun base ρ S e w t c z he hw hc => s_pick rfl hx ha hb he hw hc⟩
  | alloc el =>
    obtain ⟨zs, hz, rfl⟩ := map_some (show (zeroOf P el).map (fun z => AO.alloc el (sizeT P el) z) = some a from h)
    exact .inr (.inl ⟨rfl, rfl, fun t S c z _ => ⟨.cells el (sizeT P el) zs, fun b => .ptr b 0, fun _ _ => rfl, fun ρ e w _ => s_alloc rfl hz⟩⟩)
  | box el x =>
    obtain ⟨y, hy, rfl⟩ := map_some (show (ofOperand x).map (fun x => AO.box el (sizeT P el) x) = some a from h)
    refine .inr (.inl ⟨rfl, rfl, fun t S c z hc => ?_⟩)
    obtain ⟨ob, h1, h2⟩ := s_box (o := { dst, op := .box el x, type, pos, after, guard }) (P := P) rfl hy hc
    exact ⟨ob, _, h1, h2⟩
  | build ty ps => exact sound_build rfl h
  | buildSlice ty len ps => exact sound_buildSlice rfl h
  | load ty x =>
    obtain ⟨hk, h⟩ := bif_some (show (bif known P ty then (ofOperand x).map fun x => AO.load (aggT P ty) (sizeT P ty) x else none) = some a from h)
    obtain ⟨y, hy, rfl⟩ := map_some h
    obtain ⟨d, hd, hn⟩ := known_some hk
    exact .inl ⟨rfl, fun base ρ S e w t c z he hw hc => s_load rfl hd hn hy he hw hc⟩
  | store ty x y =>
    obtain ⟨hk, h⟩ := bif_some (show (bif known P ty then (ofOperand x).bind fun a => (ofOperand y).map fun x => AO.store (sizeT P ty) a x else none) = some a from h)
    obtain ⟨x', hx, h⟩ := bind_some h
    obtain ⟨y', hy, rfl⟩ := map_some h
    obtain ⟨d, hd, hn⟩ := known_some hk
    exact .inr (.inr ⟨rfl, rfl, (by intro h; cases h), fun base ρ S e w t c z he hw hc => s_store rfl hn hx hy he hw hc⟩)
  | nilCheck x =>
    obtain ⟨y, hy, rfl⟩ := map_some (show (ofOperand x).map AO.nilCheck = some a from h)
    exact .inl ⟨rfl, fun base ρ S e w t c z he hw hc => s_nilCheck rfl hy he hw hc⟩
  | binOp op ty x y yt =>
    obtain ⟨x', hx, h⟩ := bind_some (show (ofOperand x).bind (fun x => (ofOperand y).bind fun y => compBin P op ty x y) = some a from h)
    obtain ⟨y', hy, h⟩ := bind_some h
    exact sound_bin rfl hx hy h
  | unOp op ty x =>
    obtain ⟨y, hy, rfl⟩ := map_some (show (ofOperand x).map (fun x => AO.un op x) = some a from h)
    exact .inl ⟨rfl, fun base ρ S e w t c z he hw hc => s_un rfl hy he hw hc⟩
  | convert sr ds x =>
    obtain ⟨y, hy, h⟩ := bind_some (show (ofOperand x).bind (compConv P sr ds) = some a from h)
    exact sound_conv rfl hy h
  | sliceToArrayPointer ty x =>
    cases hu : P.underlying ty with
    | none => simp [compOp?, hu] at h
    | some d =>
      cases d <;> simp only [compOp?, hu] at h <;> try (cases h; done)
      obtain ⟨y, hy, rfl⟩ := map_some h
      exact .inl ⟨rfl, fun base ρ S e w t c z he hw hc => s_s2ap rfl hu hy he hw hc⟩
  | makeInterface ty x =>
    cases hu : P.underlying ty with
    | none => simp [compOp?, hu] at h
    | some d =>
      have hd : ∀ ms, d ≠ .interface ms := fun ms e => by subst e; simp [compOp?, hu] at h
      have h : (ofOperand x).map (fun x => AO.makeIface ty x) = some a := by
        cases d <;> simp only [compOp?, hu] at h <;> first | exact h | (cases h; done)
      obtain ⟨y, hy, rfl⟩ := map_some h
      exact .inl ⟨rfl, fun base ρ S e w t c z he hw hc => s_makeIface rfl hu hd hy he hw hc⟩
  | typeAssert x xt ty ok =>
    cases hu : P.underlying ty with
    | none => simp [compOp?, hu] at h
    | some d =>
      have hd : ∀ ms, d ≠ .interface ms := fun ms e => by subst e; simp [compOp?, hu] at h
      have h : ((P.info? ty).bind (·.zero)).bind (fun z => (ofValue z).bind fun z => (ofOperand x).map fun x => AO.tassert ty z ok x) = some a := by
        cases d <;> simp only [compOp?, hu] at h <;> first | exact h | (cases h; done)
      obtain ⟨zv, hz, h⟩ := bind_some h
      obtain ⟨za, hza, h⟩ := bind_some h
      obtain ⟨y, hy, rfl⟩ := map_some h
      obtain ⟨ti, hi, hz⟩ := bind_some hz
      exact .inl ⟨rfl, fun base ρ S e w t c z he hw hc => s_tassert rfl hu hd hi hz (ofValue_some hza) hy he hw hc⟩
  | makeFunc fn x y =>
    cases fn with
    | func f =>
      obtain ⟨x', hx, h⟩ := bind_some (show (ofOperands x.toList).bind (fun a => (ofOperands y.toList).map fun b => AO.makeFunc f a b) = some a from h)
      obtain ⟨y', hy, rfl⟩ := map_some h
      exact .inl ⟨rfl, fun base ρ S e w t c z he hw hc => s_makeFunc rfl hx hy he hw hc⟩
    | _ => cases h
  | makeMap ty r =>
    cases r with
    | none =>
      cases h
      exact .inr (.inl ⟨rfl, rfl, fun t S c z _ => ⟨.map [] 0, fun b => .map b, fun _ _ => rfl, fun ρ e w _ => s_makeMap rfl⟩⟩)
    | some x =>
      cases x with
      | const v =>
        cases v with
        | int k n =>
          cases hu : P.underlying ty with
          | none => simp [compOp?, hu] at h
          | some d =>
            cases d <;> simp only [compOp?, hu] at h <;> try (cases h; done)
            cases h
            exact .inr (.inl ⟨rfl, rfl, fun t S c z _ => ⟨.map [] 0, fun b => .map b, fun _ _ => rfl, fun ρ e w he => s_makeMap' rfl hu he⟩⟩)
        | _ => cases h
      | _ => cases h
  | makeSlice ty l k => exact sound_makeSlice rfl h
  | slice ty x lo hi mx =>
    obtain ⟨x', hx, h⟩ := bind_some (show (ofOperand x).bind (fun x => (ofOpt lo).bind fun lo => (ofOpt hi).bind fun hi => (ofOpt mx).bind fun mx => (match P.underlying ty with
      | some (.array n e) => bif known P e then some (.sliceArray n (sizeT P e) x lo hi mx) else none
      | some (.slice e) => bif known P e then some (.sliceSlice (sizeT P e) x lo hi mx) else none
      | some .string => strSlice x lo hi mx
      | _ => none)) = some a from h)
    obtain ⟨lo', hlo, h⟩ := bind_some h
    obtain ⟨hi', hhi, h⟩ := bind_some h
    obtain ⟨mx', hmx, h⟩ := bind_some h
    exact sound_slice rfl hx hlo hhi hmx h
  | fieldAddr ty x i => exact sound_fieldAddr rfl h
  | field ty x i => exact sound_field rfl h
  | indexAddr ty x i =>
    obtain ⟨x', hx, h⟩ := bind_some (show (ofOperand x).bind (fun x => (ofOperand i).bind fun i => (match P.underlying ty with
      | some (.array n e) => bif known P e then some (.atArray n (sizeT P e) x i) else none
      | some (.slice e) => bif known P e then some (.atSlice (sizeT P e) x i) else none
      | _ => none)) = some a from h)
    obtain ⟨i', hi, h⟩ := bind_some h
    exact sound_indexAddr rfl hx hi h
  | index ty x i =>
    obtain ⟨x', hx, h⟩ := bind_some (show (ofOperand x).bind (fun x => (ofOperand i).bind fun i => (match P.underlying ty with
      | some (.array n e) => bif known P e then some (.ixArray n (sizeT P e) (aggT P e) x i) else none
      | some .string => some (.ixString x i)
      | _ => none)) = some a from h)
    obtain ⟨i', hi, h⟩ := bind_some h
    exact sound_index rfl hx hi h
  | lookup ty x i ok => exact sound_lookup rfl h
  | mapUpdate ty m k v =>
    obtain ⟨s, hs, h⟩ := bind_some (show (keyUp P ty).bind (fun s => (ofOperand m).bind fun m => (ofOperand k).bind fun k => (ofOperand v).map fun v => AO.mapUpdate s m k v) = some a from h)
    obtain ⟨m', hm, h⟩ := bind_some h
    obtain ⟨k', hk, h⟩ := bind_some h
    obtain ⟨v', hv, rfl⟩ := map_some h
    rcases keyUp_some hs with ⟨kt, el, d, h1, h2, h3⟩ | ⟨kt, el, fs, n, h1, h2, h3, rfl⟩
    · exact .inr (.inr ⟨rfl, rfl, (by intro h; cases h), fun base ρ S e w t c z he hw hc => s_mapUpdate (.inl rfl) h1 h2 h3 hm hk hv he hw hc⟩)
    · exact .inr (.inr ⟨rfl, rfl, (by intro h; cases h), fun base ρ S e w t c z he hw hc => s_mapFresh (.inl rfl) h1 h2 h3 hm hk hv he hw hc⟩)
  | insert ty m k v =>
    obtain ⟨s, hs, h⟩ := bind_some (show (keyUp P ty).bind (fun s => (ofOperand m).bind fun m => (ofOperand k).bind fun k => (ofOperand v).map fun v => AO.mapUpdate s m k v) = some a from h)
    obtain ⟨m', hm, h⟩ := bind_some h
    obtain ⟨k', hk, h⟩ := bind_some h
    obtain ⟨v', hv, rfl⟩ := map_some h
    rcases keyUp_some hs with ⟨kt, el, d, h1, h2, h3⟩ | ⟨kt, el, fs, n, h1, h2, h3, rfl⟩
    · exact .inr (.inr ⟨rfl, rfl, (by intro h; cases h), fun base ρ S e w t c z he hw hc => s_mapUpdate (.inr rfl) h1 h2 h3 hm hk hv he hw hc⟩)
    · exact .inr (.inr ⟨rfl, rfl, (by intro h; cases h), fun base ρ S e w t c z he hw hc => s_mapFresh (.inr rfl) h1 h2 h3 hm hk hv he hw hc⟩)
  | extract x i =>
    obtain ⟨y, hy, rfl⟩ := map_some (show (ofOperand x).map (fun x => AO.extract x i) = some a from h)
    exact .inl ⟨rfl, fun base ρ S e w t c z he hw hc => s_extract rfl hy he hw hc⟩
  | call cl =>
    obtain ⟨callee, args, ats⟩ := cl
    cases callee with
    | builtin b => exact sound_call h
    | value f =>
      have hc : isCall a = true := by
        cases f with
        | func f => obtain ⟨_, _, rfl⟩ := map_some (show (ofOperands args.toList).map (fun a => AO.call f a) = some a from h); rfl
        | tmp q =>
          obtain ⟨_, _, h⟩ := bind_some (show (ofOperand (.tmp q)).bind (fun f => (ofOperands args.toList).map fun a => AO.dyn f a) = some a from h)
          obtain ⟨_, _, rfl⟩ := map_some h
          rfl
        | const q =>
          obtain ⟨_, _, h⟩ := bind_some (show (ofOperand (.const q)).bind (fun f => (ofOperands args.toList).map fun a => AO.dyn f a) = some a from h)
          obtain ⟨_, _, rfl⟩ := map_some h
          rfl
        | global q =>
          obtain ⟨_, _, h⟩ := bind_some (show (ofOperand (.global q)).bind (fun f => (ofOperands args.toList).map fun a => AO.dyn f a) = some a from h)
          obtain ⟨_, _, rfl⟩ := map_some h
          rfl
      exact sound_callee hc trivial
    | invoke x name =>
      have hc : isCall a = true := by
        obtain ⟨_, _, h⟩ := bind_some (show (ofOperand x).bind (fun x => (ofOperands args.toList).map fun a => .invoke x (methFn P name) a) = some a from h)
        obtain ⟨_, _, rfl⟩ := map_some h
        rfl
      exact sound_callee hc trivial
  | defer cl =>
    obtain ⟨callee, args, ats⟩ := cl
    cases callee with
    | value f =>
      have hc : isCall a = true := by
        obtain ⟨_, _, h⟩ := bind_some (show (ofOperand f).bind (fun f => (ofOperands args.toList).map fun a => .defer f a) = some a from h)
        obtain ⟨_, _, rfl⟩ := map_some h
        rfl
      exact sound_callee hc trivial
    | _ => cases h
  | range ty x =>
    cases hu : P.underlying ty with
    | none => simp [compOp?, hu] at h
    | some d =>
      cases d <;> simp only [compOp?, hu] at h <;> try (cases h; done)
      obtain ⟨y, hy, rfl⟩ := map_some h
      exact .inr (.inr ⟨rfl, rfl, (by intro h; cases h), fun base ρ S e w t c z he hw hc => s_mrange rfl hu hy he hw hc⟩)
  | entry x =>
    obtain ⟨y, hy, rfl⟩ := map_some (show (ofOperand x).map AO.mentry = some a from h)
    exact .inl ⟨rfl, fun base ρ S e w t c z he hw hc => s_mentry rfl hy he hw hc⟩
  | next x s =>
    cases s with
    | true => cases h
    | false =>
      obtain ⟨y, hy, rfl⟩ := map_some (show (ofOperand x).map AO.mnext = some a from h)
      exact sound_callee rfl trivial
  | _ => cases h
end Go.Proofs.YtpllompnfhpfmaaGreatDoor.Exe
namespace Go.Proofs.YtpllompnfhpfmaaGreatDoor.Exe
open Go
variable {Lg : Laid} {base : Base Lg} {w : World} {P : Program} {ρ : Rho} {S : AS} {t : T} {o : Oper} {c : K} {z : AV × Option AS} {a : Act}

/-! ### Calls, as hypotheses -/
/-- A fence that lets all in; 'ro': of a round. -/
def FW (ro : Option Nat) : Fence := { Fence.wide with round := ro }
/-- What a call must show. -/
def CEOK (P : Program) (ρ : Rho) : CE → List Value → World → (Ending → World → Prop) → Prop
  | .fn g, us, w, R => CallsIn (FW none) 0 P g us.toArray w R ∧ ∃ fn, P.funcs[g]? = some fn ∧ fn.body.isNone = false
  | .dfn g, us, w, R => (∀ u, CallsDIn (FW none) 0 P g us.toArray u w fun e u' w' => u' = u ∧ R e w') ∧ ∃ fn, P.funcs[g]? = some fn ∧ fn.body.isNone = false
  | .xfn g, us, w, R => (CallsIn (FW none) 0 P g us.toArray w R ∧ ∃ fn, P.funcs[g]? = some fn ∧ fn.body.isNone = false) ∨ ∃ u w', (callFunc g us.toArray).run P w = .ok (.value u) w' ∧ R (.returned u) w'
  | .nx, us, w, R => ∃ u w', (∀ ty, (Instr.next (us.headD undef) false ty).run P w = .ok u w') ∧ R (.returned u) w'
  | .yl l, us, w, R => ∀ r x, ρ l = some (r, x) → ∃ f tmps a b, (Instr.yield r us.toArray).run P w = .ok (.round r f tmps a b) w ∧ RoundIn (FW none) 0 P r f tmps a b w R
def ClOK (Lg : Laid) (P : Program) (cl : Cl) : Prop :=
  ∀ (base : Base Lg) (ρ : Rho) (S : AS) (w : World) (e : CE) (args : List AV) (us : List Value) (k : K) (z : AV × Option AS) (R : Ending → World → Prop), WRel base ρ S w → DenL ρ args us → cl e args S k = some z →
    (∀ v S' ρ' w' u, k v S' = some z → ρ.le ρ' → Keep ρ ρ' S S' → WRel base ρ' S' w' → Den ρ' v u → R (.returned u) w') →
    CEOK P ρ e us w R

/-- The calls that were put off. -/
inductive DfRel (ρ : Rho) : List AV → List Deferred → Prop where
  | nil : DfRel ρ [] []
  | fn {g : FuncId} {as l : List AV} {us : List Value} {ds : List Deferred} {dargs cap : Array Value} : DenL ρ as us → dargs ++ cap = us.toArray → DfRel ρ l ds → DfRel ρ (.fn g as [] :: l) ({ target := .fn (.func g) cap, args := dargs } :: ds)
  | mark {b r x : Nat} {l : List AV} {ds : List Deferred} : ρ b = some (r, x) → DfRel ρ l ds → DfRel ρ (.map b :: l) ({ target := .collected r, args := #[] } :: ds)
theorem DfRel.mono {ρ σ : Rho} (h : ρ.le σ) : ∀ {l : List AV} {ds : List Deferred}, DfRel ρ l ds → DfRel σ l ds
  | _, _, .nil => .nil
  | _, _, .fn a b c => .fn (a.mono h) b (c.mono h)
  | _, _, .mark a b => .mark (h _ _ a) (b.mono h)

structure RelA {Lg : Laid} (base : Base Lg) (ρ : Rho) (S : AS) (w : World) (t : T) (a : Act) (N : Nat) : Prop where
  world : WRel base ρ S w
  tmps : TRel ρ t a
  defers : DfRel ρ t.off a.defers
  size : a.tmps.size = N
theorem off_putT (d : Option (List D4)) (v : AV) (t : T) : (putT d v t).off = t.off := by
  cases d with
  | none => rfl
  | some p => exact off_setP v p t

/-! ### Is it wanted? -/
theorem wantV_some {v : AV} {b : Bool} {k : Bool → R} (h : wantV v b k = some z) : (∃ x, v = .bool x ∧ k (x == b) = some z) ∨ (∃ vs, v = .tup vs ∧ k false = some z) := by
  cases v <;> first | (cases h; done) | skip
  · rename_i x
    refine .inl ⟨x, rfl, ?_⟩
    have h : k (ifB b x (ifB x false true)) = some z := h
    rw [← h]
    cases b <;> cases x <;> rfl
  · exact .inr ⟨_, rfl, h⟩

theorem wantC_some {ops : Array Oper} {g : Option (Nat × Bool)} {k : Bool → R} (hg : o.guard = g) (ht : ∀ n, (∃ j b, g = some (j, b) ∧ ((ops[j]?).bind (·.dst)) = some n) → Den ρ (evTmp (pathOf n) t) (a.tmps.getD n undef))
    (h : wantC (g.map fun (j, b) => (((ops[j]?).bind (·.dst)).map pathOf, b)) t k = some z) : k (Region.wanted o (yielded ops a.tmps)) = some z := by
  unfold Region.wanted
  cases g with
  | none => rw [hg]; exact h
  | some p =>
    obtain ⟨j, b⟩ := p
    rw [hg]
    show k (yielded ops a.tmps j == some b) = some z
    cases hd : (ops[j]?).bind (·.dst) with
    | none =>
      have h : wantC (some (((ops[j]?).bind (·.dst)).map pathOf, b)) t k = some z := h
      rw [hd] at h
      have hy : yielded ops a.tmps j = none := by unfold yielded; rw [hd]; rfl
      rw [hy]
      exact h
    | some n =>
      have h : wantC (some (((ops[j]?).bind (·.dst)).map pathOf, b)) t k = some z := h
      rw [hd] at h
      have h : wantV (evTmp (pathOf n) t) b k = some z := h
      have hden := ht n ⟨j, b, rfl, hd⟩
      rcases wantV_some h with ⟨x, hv, h⟩ | ⟨vs, hv, h⟩
      · rw [hv] at hden
        generalize hu : a.tmps.getD n undef = u at hden
        cases hden
        have hy : yielded ops a.tmps j = some x := by
          unfold yielded
          rw [hd]
          rw [Array.getD_eq_getD_getElem?] at hu
          cases h' : a.tmps[n]? with
          | none => rw [h'] at hu; cases hu
          | some y => rw [h'] at hu; have : y = .bool x := hu; subst this; simp [h']
        rw [hy, ← h]
        rfl
      · rw [hv] at hden
        generalize hu : a.tmps.getD n undef = u at hden
        cases hden with
        | @tup _ us hl =>
        have hy : yielded ops a.tmps j = none := by
          unfold yielded
          rw [hd]
          rw [Array.getD_eq_getD_getElem?] at hu
          cases h' : a.tmps[n]? with
          | none => simp [h']
          | some y => rw [h'] at hu; have : y = .tuple us.toArray := hu; subst this; simp [h']
        rw [hy]
        exact h

theorem compOper_guard (ops : Array Oper) (o : Oper) : (compOper P ops o).guard = o.guard.map fun (j, b) => (((ops[j]?).bind (·.dst)).map pathOf, b) := rfl

/-! ### One operation carried out -/
theorem putT_rel (h : TRel ρ t a) {v : AV} {u : Value} (hv : Den ρ v u) (d : Option Nat) (hd : ∀ n, d = some n → n < a.tmps.size) : TRel ρ (putT (d.map pathOf) v t) (a.put d u) := by
  cases d with
  | none => exact h
  | some n => exact h.put hv n (hd n rfl)
theorem put_size (a : Act) (d : Option Nat) (u : Value) : (a.put d u).tmps.size = a.tmps.size := by
  cases d with
  | none => rfl
  | some n => show (a.tmps.setIfInBounds n u).size = _; simp
theorem put_defers (a : Act) (d : Option Nat) (u : Value) : (a.put d u).defers = a.defers := by cases d <;> rfl

/-- What holds behind an operation. -/
def Goes {Lg : Laid} (base : Base Lg) (ρ : Rho) (S : AS) (o : Oper) (a : Act) (k : K) (z : AV × Option AS) (next : Act → World → Prop) : Prop :=
  ∀ v S' ρ' w' u, k v S' = some z → ρ.le ρ' → Keep ρ ρ' S S' → WRel base ρ' S' w' → Den ρ' v u → next (a.put o.dst u) w'

theorem post_wp {next : Act → World → Prop} {Q : Exit → Act → World → Prop} {ro : Option Nat} (hd : ∀ c, o.op ≠ .defer c) (hp : OpPost base P ρ S a.eval o w c z) (hn : Goes base ρ S o a c z next) : o.wpIn (FW ro) 0 P a w next Q := by
  obtain ⟨v, S', ρ', w', u, h1, h2, h3, h4, h5, h6⟩ := hp
  unfold Oper.wpIn
  refine ⟨fun _ _ => trivial, ?_⟩
  rw [Oper.semAt_eq _ _ _ hd]
  rcases h6 with h6 | ⟨h6, rfl⟩
  · rw [h6]; exact hn v S' ρ' w' u h1 h2 h3 h4 h5
  · rw [h6]; exact hn v S' ρ' w' undef h1 h2 h3 h4 h5
theorem plain_wp {x : AO} {next : Act → World → Prop} {Q : Exit → Act → World → Prop} {ro : Option Nat} (hd : ∀ c, o.op ≠ .defer c) (hs : Sound Lg P o x) (he : EvRel ρ t a.eval) (hw : WRel base ρ S w) (h : opK x t S c = some z) (hn : Goes base ρ S o a c z next) : o.wpIn (FW ro) 0 P a w next Q :=
  post_wp hd (hs.post he hw h) hn

theorem stepC_plain {x : AO} {cl : Cl} (h : isCall x = false) : stepC x cl t S c = opK x t S c := by
  cases x <;> first | rfl | cases h

theorem names_call {g : FuncId} {fn : Func} {args : Array Value} (hf : P.funcs[g]? = some fn) (hn : (fn.name == "runtime.NumGoroutine") = false) (hb : fn.body.isNone = false) (w : World) : (callFunc g args).run P w = .ok (.enter g args) w := by
  have hn' : ¬ fn.name = "runtime.NumGoroutine" := by simpa using hn
  have hb' : ¬ fn.body = none := by intro e; rw [e] at hb; cases hb
  simp [callFunc, hf, hn', hb']

theorem method_wp {ty : TypeId} {name : String} {g : FuncId} {v : Value} {k : Nat} (h : methFn P name ty = some g) (w : World) : (method (k + 1) ty v name).run P w = .ok (g, v) w := by
  unfold methFn at h
  obtain ⟨i, hi, h⟩ := bind_some h
  obtain ⟨m, hm, h⟩ := bind_some h
  split at h
  · rename_i f el h1 h2 h3
    cases h
    unfold method
    simp [typeInfo, hi, hm, h1, h2, follow, receiverAt, run_underlying h3, Place.get]
  · cases h

/-- A call's post. -/
def postOf (o : Oper) (a : Act) (next : Act → World → Prop) (Q : Exit → Act → World → Prop) : Ending → World → Prop
  | .returned v, w'' => next (a.put o.dst v) w''
  | .panicked chain, w'' => Q (.panic chain) a w''
  | .outgrown, _ => LetsOut Q
theorem enter_wp {g : FuncId} {us : List Value} {next : Act → World → Prop} {Q : Exit → Act → World → Prop} {ro : Option Nat} (hd : ∀ c, o.op ≠ .defer c) (hr : (execOp a.eval o).run P w = .ok (.enter g us.toArray) w) (hc : CallsIn (FW none) 0 P g us.toArray w (postOf o a next Q)) : o.wpIn (FW ro) 0 P a w next Q := by
  unfold Oper.wpIn
  refine ⟨fun _ _ => trivial, ?_⟩
  rw [Oper.semAt_eq _ _ _ hd, hr, Oper.uponIn_enter]
  refine ⟨fun h => (by cases h), CallsIn.mono (F := FW none) (n := 0) hc fun e w h => ?_⟩
  cases e <;> exact h
theorem round_wp {r : Nat} {f : FuncId} {tmps : Array Value} {x y : Code} {next : Act → World → Prop} {Q : Exit → Act → World → Prop} {ro : Option Nat} (hd : ∀ c, o.op ≠ .defer c) (hr : (execOp a.eval o).run P w = .ok (.round r f tmps x y) w) (hc : RoundIn (FW none) 0 P r f tmps x y w (postOf o a next Q)) : o.wpIn (FW ro) 0 P a w next Q := by
  unfold Oper.wpIn
  refine ⟨fun _ _ => trivial, ?_⟩
  rw [Oper.semAt_eq _ _ _ hd, hr, Oper.uponIn_round]
  refine ⟨fun h => (by cases h), RoundIn.mono (F := FW none) (n := 0) hc fun e w h => ?_⟩
  cases e <;> exact h

theorem DenL.append {ρ : Rho} : ∀ {x : List AV} {u : List Value} {y : List AV} {v : List Value}, DenL ρ x u → DenL ρ y v → DenL ρ (x ++ y) (u ++ v)
  | _, _, _, _, .nil, h => h
  | _, _, _, _, .cons a b, h => .cons a (b.append h)

theorem sound_callOp {x : AO} {cl : Cl} {next : Act → World → Prop} {Q : Exit → Act → World → Prop} {ro : Option Nat} (hN : ∀ (g : FuncId) (fn : Func), P.funcs[g]? = some fn → (fn.name == "runtime.NumGoroutine") = false) (hcl : ClOK Lg P cl) (hx : compOp? P o = some x) (hcall : isCall x = true) (he : EvRel ρ t a.eval) (hw : WRel base ρ S w)
    (h : stepC x cl t S c = some z) (hn : Goes base ρ S o a c z next) : o.wpIn (FW ro) 0 P a w next Q := by
  have post : ∀ (g : FuncId) (args : List AV) (us : List Value), DenL ρ args us → cl (.xfn g) args S c = some z → (∀ c, o.op ≠ .defer c) → (execOp a.eval o).run P w = (callFunc g us.toArray).run P w → o.wpIn (FW ro) 0 P a w next Q := by
    intro g args us hl hc hd hr
    rcases hcl base ρ S w (.xfn g) args us c z (postOf o a next Q) hw hl hc (fun v S' ρ' w' u h1 h2 h3 h4 h5 => hn v S' ρ' w' u h1 h2 h3 h4 h5) with ⟨hcalls, fn, hf, hb⟩ | ⟨u, w', hrun, hpost⟩
    · exact enter_wp hd (hr.trans (names_call hf (hN g fn hf) hb w)) hcalls
    · unfold Oper.wpIn
      refine ⟨fun _ _ => trivial, ?_⟩
      rw [Oper.semAt_eq _ _ _ hd, hr, hrun]
      exact hpost
  obtain ⟨dst, op, type, pos, after, guard⟩ := o
  cases op with
  | call cc =>
    obtain ⟨callee, args, ats⟩ := cc
    cases callee with
    | builtin b =>
      exfalso
      rcases sound_call (Lg := Lg) hx with ⟨h1, _⟩ | ⟨_, h1, _⟩ | ⟨_, _, h1, _⟩
      · exact absurd ((isCall_class hcall).1.symm.trans h1) (by simp)
      · exact absurd ((isCall_class hcall).2.symm.trans h1) (by simp)
      · exact h1 hcall
    | value f =>
      have dync : ∀ (x' : AR) (as : List AR), ofOperand f = some x' → ofOperands args.toList = some as → cDyn x' as cl t S c = some z → Oper.wpIn (FW ro) 0 P { dst, op := .call { callee := .value f, args, argTypes := ats }, type, pos, after, guard } a w next Q := by
        intro x' as hf has h
        have hd := he f x' hf
        rcases ifB_or (show ifB (isYl (ev x' t)) (onYl (ev x' t) fun l => cl (.yl l) (evs as t) S c) (onFn (ev x' t) fun g a b => cl (.xfn g) (List.append a (List.append (evs as t) b)) S c) = some z from h) with ⟨_, h⟩ | ⟨_, h⟩
        · obtain ⟨l, hv, h⟩ := onYl_some h
          rw [hv] at hd
          generalize hef : a.eval f = vf at hd
          cases hd with
          | @yl _ r y hρ =>
            obtain ⟨fi, tmps, x, y, hy, hround⟩ := hcl base ρ S w (.yl l) _ _ c z (postOf { dst, op := .call { callee := .value f, args, argTypes := ats }, type, pos, after, guard } a next Q) hw (evs_rel has he) h (fun v S' ρ' w' u h1 h2 h3 h4 h5 => hn v S' ρ' w' u h1 h2 h3 h4 h5) _ _ hρ
            refine round_wp (fun _ h => by cases h) ?_ hround
            rw [← hy]
            simp [execOp, resolve, hef, Deferred.ofValue, invoke]
            congr 1
            apply congrArg (Instr.yield r)
            apply Array.toList_inj.1
            simp
        obtain ⟨g, fi, ca, hv, h⟩ := onFn_some h
        rw [hv] at hd
        generalize hef : a.eval f = vf at hd
        cases hd with
        | @fn _ _ _ fi' ca' h1 h2 =>
          have hl := evs_rel has he
          refine post g _ _ (h1.append (hl.append h2)) h (fun _ h => by cases h) ?_
          simp [execOp, resolve, hef, Deferred.ofValue, invoke]
          congr 1
          apply congrArg (callFunc g)
          apply Array.toList_inj.1
          simp
      cases f with
      | func g =>
        obtain ⟨as, has, rfl⟩ := map_some (show (ofOperands args.toList).map (fun a => AO.call g a) = some x from hx)
        refine post g _ _ (evs_rel has he) h (fun _ h => by cases h) ?_
        simp [execOp, resolve, Deferred.ofValue, invoke, Act.eval]
        congr 1
        apply congrArg (callFunc g)
        apply Array.toList_inj.1
        simp
      | tmp q =>
        obtain ⟨x', hf, h1⟩ := bind_some (show (ofOperand (.tmp q)).bind (fun f => (ofOperands args.toList).map fun a => AO.dyn f a) = some x from hx)
        obtain ⟨as, has, rfl⟩ := map_some h1
        exact dync x' as hf has h
      | const q =>
        obtain ⟨x', hf, h1⟩ := bind_some (show (ofOperand (.const q)).bind (fun f => (ofOperands args.toList).map fun a => AO.dyn f a) = some x from hx)
        obtain ⟨as, has, rfl⟩ := map_some h1
        exact dync x' as hf has h
      | global q =>
        obtain ⟨x', hf, h1⟩ := bind_some (show (ofOperand (.global q)).bind (fun f => (ofOperands args.toList).map fun a => AO.dyn f a) = some x from hx)
        cases hf
    | invoke rx name =>
      obtain ⟨x', hf, h1⟩ := bind_some (show (ofOperand rx).bind (fun x => (ofOperands args.toList).map fun a => AO.invoke x (methFn P name) a) = some x from hx)
      obtain ⟨as, has, rfl⟩ := map_some h1
      obtain ⟨ty, v, hv, h⟩ := onIfc_some (show onIfc (ev x' t) _ = some z from h)
      obtain ⟨g, hg, h⟩ := onSome_some h
      have hd := he rx x' hf
      rw [hv] at hd
      generalize hef : a.eval rx = vf at hd
      cases hd with
      | @ifc _ _ v' h1 =>
        refine post g _ _ (.cons h1 (evs_rel has he)) h (fun _ h => by cases h) ?_
        have hm : 0 < Made.depth := by decide
        obtain ⟨k, hk⟩ : ∃ k, P.types.size + Made.depth = k + 1 := ⟨P.types.size + Made.depth - 1, by omega⟩
        have e0 : (#[Value.iface ty v'] ++ args.map a.eval)[0]? = some (.iface ty v') := by
          rw [Array.getElem?_append_left (by simp)]; rfl
        have e1 : (#[Value.iface ty v'] ++ args.map a.eval).extract 1 (#[Value.iface ty v'] ++ args.map a.eval).size = args.map a.eval := by
          apply Array.toList_inj.1
          simp [List.extract]
          exact List.take_of_length_le (by simp)
        have e2 : (invoke (.fn (.method name) #[]) (#[Value.iface ty v'] ++ args.map a.eval)).run P w = (callMethod (.iface ty v') name (args.map a.eval)).run P w := by
          simp only [invoke, e0, e1]
        have e3 : (execOp a.eval { dst, op := .call { callee := .invoke rx name, args, argTypes := ats }, type, pos, after, guard }).run P w = (invoke (.fn (.method name) #[]) (#[Value.iface ty v'] ++ args.map a.eval)).run P w := by
          simp [execOp, resolve, hef]
        rw [e3, e2]
        simp [callMethod, hk, method_wp hg]
        congr 1
        apply congrArg (callFunc g)
        apply Array.toList_inj.1
        simp
  | defer cc =>
    obtain ⟨callee, args, ats⟩ := cc
    cases callee with
    | value f =>
      obtain ⟨x', hf, h1⟩ := bind_some (show (ofOperand f).bind (fun f => (ofOperands args.toList).map fun a => AO.defer f a) = some x from hx)
      obtain ⟨as, has, rfl⟩ := map_some h1
      cases h
    | _ => cases hx
  | next x s =>
    cases s with
    | true => cases hx
    | false =>
      obtain ⟨x', hf, rfl⟩ := map_some (show (ofOperand x).map AO.mnext = some _ from hx)
      obtain ⟨u, w', hrun, hpost⟩ := hcl base ρ S w .nx [ev x' t] [a.eval x] c z (postOf { dst, op := .next x false, type, pos, after, guard } a next Q) hw (.cons (he x x' hf) .nil) h (fun v S' ρ' w' u h1 h2 h3 h4 h5 => hn v S' ρ' w' u h1 h2 h3 h4 h5)
      have hrun' : ∀ ty, (Instr.next (a.eval x) false ty).run P w = .ok u w' := hrun
      unfold Oper.wpIn
      refine ⟨fun _ _ => trivial, ?_⟩
      rw [Oper.semAt_eq _ _ _ (fun _ h => by cases h)]
      have e1 : (execOp a.eval { dst, op := .next x false, type, pos, after, guard }).run P w = .ok (.value u) w' := by simp [execOp, hrun']
      rw [e1]
      exact hpost
  | _ =>
    exfalso
    rcases sound_of (Lg := Lg) hx with ⟨h1, _⟩ | ⟨_, h1, _⟩ | ⟨_, _, h1, _⟩
    · exact absurd ((isCall_class hcall).1.symm.trans h1) (by simp)
    · exact absurd ((isCall_class hcall).2.symm.trans h1) (by simp)
    · exact h1 hcall
end Go.Proofs.YtpllompnfhpfmaaGreatDoor.Exe
