/- A part of the machine that reckons a closed run, and of the proof that what it says the given program does. No conditions. -/
import Derived.Test.YtpochibfjpanhaaGreatYe
set_option linter.unusedVariables false
set_option linter.unusedSimpArgs false
namespace Go.Proofs.YtpochibfjpanhaaGreat.Exe
open Go
variable {base w : World} {P : Program} {ρ : Rho} {S : AS} {t : T} {e : Operand → Value} {o : Oper} {c : K} {z : AV × Option AS}

noncomputable def AS.del (S : AS) (b : Nat) : AS := { heap := S.heap.setK none b, next := S.next }
theorem AS.live_del {S : AS} {b c : Nat} (h : (S.del b).live c) : c ≠ b ∧ S.live c := by
  obtain ⟨o, ho⟩ := h
  rcases HT.getK_setK _ _ _ ho with ⟨_, e⟩ | ⟨hne, g⟩
  · cases e
  · exact ⟨hne, ⟨_, g⟩⟩
theorem WRel.del (h : WRel base ρ S w) (b : Nat) : WRel base ρ (S.del b) w :=
  { low := h.low, size := h.size, os := h.os, output := h.output, tape := h.tape, dom := h.dom, rng := h.rng,
    inj := fun c d r x y hc hd => h.inj c d r x y (AS.live_del hc).2 (AS.live_del hd).2,
    obj := fun c o r x hc ec => by
      rcases HT.getK_setK _ _ _ hc with ⟨_, e⟩ | ⟨_, g⟩
      · cases e
      · exact h.obj c o r x g ec }
theorem Keep.del {ρ : Rho} {S : AS} {b : Nat} {r : Nat × Nat} (e : ρ b = some r) : Keep ρ ρ S (S.del b) :=
  ⟨Nat.le_refl _, fun c _ ec => ⟨ec, fun o' ho => by
    rcases HT.getK_setK _ _ _ ho with ⟨_, h1⟩ | ⟨_, g⟩
    · cases h1
    · exact g⟩⟩

/-- A block that no live number stands for, under a new number, with what lies there now. -/
theorem WRel.link (h : WRel base ρ S w) {r x : Nat} {o : AObj} {u : Obj} (hr : base.heap.size ≤ r ∧ r < w.heap.size) (hfree : ∀ c y, S.live c → ρ c = some (r, y) → False) (hu : ORel (ρ.add S.next (r, x)) x o u) :
    WRel base (ρ.add S.next (r, x)) { heap := S.heap.setK (some o) S.next, next := Nat.succ S.next } (w.putObj r u) := by
  have hle : ρ.le (ρ.add S.next (r, x)) := Rho.le_add (h.dom _ (Nat.le_refl _))
  have hs : (w.putObj r u).heap.size = w.heap.size := by show (w.heap.setIfInBounds r u).size = _; simp
  have hne : ∀ q, q ≠ r → (w.putObj r u).heap[q]? = w.heap[q]? := fun q hq => by show (w.heap.setIfInBounds r u)[q]? = _; rw [Array.getElem?_setIfInBounds_ne (by omega)]
  refine { low := fun q hq => by rw [hne q (by omega)]; exact h.low q hq, size := by rw [hs]; exact h.size, os := h.os, output := h.output, tape := h.tape, dom := fun b hb => ?_, rng := fun b q y e => ?_, inj := fun b c q y z hb hc eb ec => ?_, obj := fun b o' q y hb e => ?_ }
  · have hb : S.next + 1 ≤ b := hb
    unfold Rho.add
    rw [if_neg (by omega)]
    exact h.dom b (by omega)
  · rw [hs]
    unfold Rho.add at e
    by_cases hc : b = S.next
    · rw [if_pos hc] at e; cases e; exact hr
    · rw [if_neg hc] at e; exact h.rng _ _ _ e
  · obtain ⟨ob, hb⟩ := hb
    obtain ⟨oc, hc⟩ := hc
    unfold Rho.add at eb ec
    by_cases h1 : b = S.next <;> by_cases h2 : c = S.next
    · omega
    · rw [if_pos h1] at eb; rw [if_neg h2] at ec; cases eb
      have g2 : S.live c := by rcases HT.getK_setK _ _ _ hc with ⟨e, _⟩ | ⟨_, g⟩; exact absurd e h2; exact ⟨_, g⟩
      exact (hfree c _ g2 ec).elim
    · rw [if_neg h1] at eb; rw [if_pos h2] at ec; cases ec
      have g1 : S.live b := by rcases HT.getK_setK _ _ _ hb with ⟨e, _⟩ | ⟨_, g⟩; exact absurd e h1; exact ⟨_, g⟩
      exact (hfree b _ g1 eb).elim
    · rw [if_neg h1] at eb; rw [if_neg h2] at ec
      have g1 : S.live b := by rcases HT.getK_setK _ _ _ hb with ⟨e, _⟩ | ⟨_, g⟩; exact absurd e h1; exact ⟨_, g⟩
      have g2 : S.live c := by rcases HT.getK_setK _ _ _ hc with ⟨e, _⟩ | ⟨_, g⟩; exact absurd e h2; exact ⟨_, g⟩
      exact h.inj b c q y z g1 g2 eb ec
  · rcases HT.getK_setK _ _ _ hb with ⟨rfl, e2⟩ | ⟨hbn, g⟩
    · cases e2
      rw [Rho.add_same] at e
      cases e
      exact ⟨u, by show (w.heap.setIfInBounds r u)[r]? = _; rw [Array.getElem?_setIfInBounds_self_of_lt hr.2], hu⟩
    · unfold Rho.add at e
      rw [if_neg hbn] at e
      obtain ⟨v, hv, hrel⟩ := h.obj b o' q y g e
      have : q ≠ r := fun eq => by subst eq; exact hfree b y ⟨_, g⟩ e
      exact ⟨v, by rw [hne q this]; exact hv, hrel.mono hle⟩

/-- What is appended. -/
theorem more_some {esz : Nat} {v : AV} {xv : Value} {k : Nat → List AV → R} (h : moreK esz v S k = some z) (d : Den ρ v xv) (hw : WRel base ρ S w) :
    ∃ m l news, k m l = some z ∧ Cells ρ l news ∧ news.length = m * esz ∧ ∀ w' : World, w'.heap = w.heap → (Builtin.lenOf xv).run P w' = .ok m w' ∧ (Builtin.firstCells esz m xv).run P w' = .ok news.toArray w' := by
  rcases ifB_or h with ⟨h1, h⟩ | ⟨_, h⟩
  · have := isSnil_true h1
    subst this
    cases d
    exact ⟨0, [], [], h, .nil, by simp, fun w' _ => ⟨rfl, rfl⟩⟩
  · obtain ⟨b, q, m, cap, op, rfl, h⟩ := onSl_some h
    obtain ⟨el, es, cs, hb, h⟩ := onCells_some h
    obtain ⟨l, hl, h⟩ := onSome_some h
    cases d with
    | @sl _ _ _ _ r x _ hρ =>
      obtain ⟨us, tail, fz, hh, hc, _, _⟩ := hw.cells hb hρ
      obtain ⟨hlen, hcl⟩ := segsK_some hc hl
      have hlen : q + m * esz ≤ us.length := hlen
      have hnl : ((us.drop q).take (m * esz)).length = m * esz := by rw [List.length_take, List.length_drop]; omega
      refine ⟨m, l, (us.drop q).take (m * esz), h, hcl, hnl, fun w' hw' => ⟨rfl, ?_⟩⟩
      exact run_firstCells_some (P := P) w' esz m ⟨r, q, none⟩ m _ _ hnl (cells_read (w := w') (by rw [hw']; exact hh) q _ hlen)

theorem s_append {ty tx el e' : TypeId} {s x : Operand} {s' x' : AR} {ats : Array TypeId} {i : TypeInfo} {zv : Value} {esz bytes : Nat} (ho : o.op = .call { callee := .builtin .append, args := #[s, x], argTypes := ats }) (ha : ats[0]? = some ty) (ha1 : ats[1]? = some tx) (hu : P.underlying ty = some (.slice el)) (hux : P.underlying tx = some (.slice e'))
    (hi : P.info? el = some i) (hz : i.zero = some zv) (hzs : zv.cells.size = esz) (hes : i.size = esz) (hby : i.bytes = bytes) (hs : ofOperand s = some s') (hx : ofOperand x = some x') (he : EvRel ρ t e) (hw : WRel base ρ S w)
    (h : kAppend el esz bytes s' x' t S c = some z) : OpPost base P ρ S e o w c z := by
  have hds := he s s' hs
  have hdx := he x x' hx
  obtain ⟨m, l, news, h, hcl, hnl, hrun⟩ := more_some (P := P) h hdx hw
  subst hes
  obtain ⟨hlx, hfx⟩ := hrun w rfl
  obtain ⟨_, hfx'⟩ := hrun w.drew rfl
  have fin : ∀ {u : Value} {w' : World}, (Builtin.append_ ats o.type #[e s, e x]).run P w = .ok u w' → (execOp e o).run P w = .ok (.value u) w' := fun hr => by
    simp [execOp, ho, resolve, invoke, builtin, hr]
  -- a new row
  have hnew : ∀ (S1 : AS) (bs : Option Addr) (sLen sCap : Nat) (olds : List Value) (oc : List AV), WRel base ρ S1 w → Keep ρ ρ S S1 → e s = .slice bs sLen sCap → olds.length = sLen * i.size → Cells ρ oc olds → (Builtin.firstCells i.size sLen (.slice bs sLen sCap)).run P w.drew = .ok olds.toArray w.drew →
      sCap < sLen + m → sLen + m ≤ 4611686018427387904 → (sLen + m) * i.bytes ≤ 140737488355328 → ∀ f, c (.sl S1.next 0 (sLen + m) (sLen + m) true) { heap := S1.heap.setK (some (.cells el i.size (joinK f oc l))) S1.next, next := Nat.succ S1.next } = some z → OpPost base P ρ S e o w c z := by
    intro S1 bs sLen sCap olds oc hw1 hk1 hes hol hoc hfo hg h63 h48 f hc
    have hrn := run_append_grow' (P := P) (w := w) hu hux hi hz o.type ats ha ha1 hlx hfo hfx' hg h63 h48
    have hge : sLen + m ≤ grownCap w (sLen + m) sCap el := Nat.le_add_right _ _
    have hle := Rho.le_add (r := (w.drew.heap.size, grownCap w (sLen + m) sCap el - (sLen + m))) (hw1.dom _ (Nat.le_refl _))
    have hcs := joinK_cells f hoc hcl
    have hw2 := hw1.drew.alloc (.cells el i.size (joinK f oc l)) (.cells (olds ++ (news ++ (List.replicate (grownCap w (sLen + m) sCap el - (sLen + m)) zv.cells.toList).flatten)).toArray el) (grownCap w (sLen + m) sCap el - (sLen + m)) (by
      have := ORel.cells (ρ := ρ.add S1.next (w.drew.heap.size, grownCap w (sLen + m) sCap el - (sLen + m))) (x := grownCap w (sLen + m) sCap el - (sLen + m)) (e := el) (z := i.size) (fz := (0, 0)) (hcs.mono hle) (tail := (List.replicate (grownCap w (sLen + m) sCap el - (sLen + m)) zv.cells.toList).flatten) (by simp [hzs]) (.inl rfl)
      rwa [List.append_assoc] at this)
    refine ⟨_, _, _, _, _, hc, hle, hk1.trans .new, hw2, ?_, .inl (fin (by rw [hes]; exact hrn))⟩
    have := Den.sl (ρ := ρ.add S1.next (w.drew.heap.size, grownCap w (sLen + m) sCap el - (sLen + m))) (b := S1.next) (o := 0) (len := sLen + m) (cap := sLen + m) (op := true) (Rho.add_same _ _ _)
    rw [if_pos rfl, show sLen + m + (grownCap w (sLen + m) sCap el - (sLen + m)) = grownCap w (sLen + m) sCap el by omega] at this
    exact this
  rcases ifB_or h with ⟨k1, h⟩ | ⟨_, h⟩
  · have hnil := isSnil_true k1
    rw [hnil] at hds
    generalize hes : e s = vs at hds fin hnew
    cases hds
    rcases ifB_or h with ⟨k2, h⟩ | ⟨k2, h⟩
    · have := beq_true k2
      subst this
      refine (OpVal.pure h hw .snil (fin ?_)).post hw
      exact run_append_room' (w' := w) hu hux hi o.type ats ha ha1 hlx hfx (by omega) rfl
    · obtain ⟨k3, h⟩ := ifB_some h
      have hm0 := beq_false k2
      obtain ⟨k4, k5⟩ := ifB_bool k3
      have k4 := ble_true k4
      have k5 : m * bytes ≤ 140737488355328 := ble_true k5
      have h := newK_some h
      have := hnew S none 0 0 [] [] hw (.refl ρ S) rfl (by simp) .nil rfl (by omega) (by omega) (by rw [hby]; simpa using k5) false
      simp only [Nat.zero_add] at this
      exact this h
  · obtain ⟨b, q, n, cap, op, hvs, h⟩ := onSl_some h
    rw [forceN_eq] at h
    obtain ⟨el1, es, cs, hb, h⟩ := onCells_some h
    rw [hvs] at hds
    generalize hes : e s = vs at hds fin hnew
    cases hds with
    | @sl _ _ _ _ r xx _ hρ =>
      obtain ⟨us, tail, fz, hh, hc, ht, hf⟩ := hw.cells hb hρ
      have hC : cap ≤ (if op = true then cap + xx else cap) := by split <;> omega
      rcases ifB_or h with ⟨k1, h⟩ | ⟨k1, h⟩
      · have k1 : n + m ≤ cap := ble_true k1
        rcases ifB_or h with ⟨k2, h⟩ | ⟨k2, h⟩
        · have := beq_true k2
          subst this
          have hnews : news = [] := List.eq_nil_of_length_eq_zero (by omega)
          subst hnews
          refine (OpVal.pure (u := .slice (some ⟨r, q, none⟩) (n + 0) (if op = true then cap + xx else cap)) h hw (.sl hρ) (fin ?_)).post hw
          exact run_append_room' (w' := w) hu hux hi o.type ats ha ha1 hlx hfx (by omega) rfl
        · obtain ⟨cs', hcs, h⟩ := onSome_some h
          obtain ⟨h1, h2⟩ := setSegsK_some hc hcl hnl hcs
          have h1 : q + n * i.size + m * i.size ≤ us.length := h1
          have h2 : Cells ρ cs' (us.take (q + n * i.size) ++ news ++ us.drop (q + n * i.size + m * i.size)) := h2
          have hst := cells_write (P := P) hh hf (q + n * i.size) news (by rw [hnl, List.length_append]; omega) (fun v hv => hcl.oneCell v hv)
          have e1 : (us ++ tail).take (q + n * i.size) ++ news ++ (us ++ tail).drop (q + n * i.size + news.length) = (us.take (q + n * i.size) ++ news ++ us.drop (q + n * i.size + m * i.size)) ++ tail := by
            rw [hnl, List.take_append_of_le_length (by omega), List.drop_append_of_le_length (by omega)]
            simp
          rw [e1] at hst
          have hlen3 : (us.take (q + n * i.size) ++ news ++ us.drop (q + n * i.size + m * i.size)).length = us.length := by
            rw [List.length_append, List.length_append, hnl, List.length_take, List.length_drop]; omega
          refine ⟨_, _, ρ, _, .slice (some ⟨r, q, none⟩) (n + m) (if op = true then cap + xx else cap), h, ρ.le_refl, .put hρ, hw.put ⟨_, hb⟩ hρ (.cells h2 ht (by rw [hlen3]; exact hf)), .sl hρ, .inl (fin ?_)⟩
          refine run_append_room' hu hux hi o.type ats ha ha1 hlx hfx (by omega) ?_
          show (storeCells ((⟨r, q, none⟩ : Addr).add (n * i.size)) news).run P w = _
          rw [Addr.add_mid]
          exact hst
      · have k1 : cap < n + m := ble_false k1
        obtain ⟨k3, h⟩ := ifB_some h
        obtain ⟨k4, k5⟩ := ifB_bool k3
        have k4 : n + m ≤ 4611686018427387904 := ble_true k4
        have k5 : (n + m) * i.bytes ≤ 140737488355328 := by rw [hby]; exact ble_true k5
        rcases ifB_or h with ⟨hop, h⟩ | ⟨hop, h⟩
        · subst hop
          obtain ⟨c1, h⟩ := ifB_some h
          obtain ⟨c2, h⟩ := ifB_some h
          obtain ⟨c3, h⟩ := ifB_some h
          obtain ⟨c4, h⟩ := ifB_some h
          obtain ⟨c6, c7⟩ := ifB_bool c1
          have c0 : el1 = el := beq_true c6
          have c5 := beq_true c7
          have c2 := beq_true c2
          have c3 := beq_true c3
          have c4 : widths cs = n * i.size := beq_true c4
          have h9 := newK_some h
          clear c6 c7 c1; subst c0; subst c5; subst c2; subst c3
          rw [widths_eq hc] at c4
          rw [if_pos rfl] at hes fin hnew hC
          have hww := hw.del b
          rcases Nat.lt_or_ge (n + xx) (n + m) with hg | hg
          · -- a new row
            have hfo := run_firstCells_some (P := P) w.drew i.size n ⟨r, 0, none⟩ n (n + xx) us c4 (fun j v hv => by
              have := cells_read (w := w.drew) (q := 0) (n := n * i.size) hh (by omega) j v
              rw [List.drop_zero, List.take_of_length_le (by omega)] at this
              exact this hv)
            exact hnew (S.del b) _ n (n + xx) us cs hww (.del hρ) rfl c4 hc hfo hg (by omega) (by omega) _ h9
          · -- in place, whatever room there is
            have hml : m * i.size ≤ tail.length := by rw [ht]; exact Nat.mul_le_mul_right _ (by omega)
            have hst := cells_write (P := P) hh hf (n * i.size) news (by rw [hnl, List.length_append]; omega) (fun v hv => hcl.oneCell v hv)
            have e1 : (us ++ tail).take (n * i.size) ++ news ++ (us ++ tail).drop (n * i.size + news.length) = (us ++ news) ++ tail.drop (m * i.size) := by
              rw [hnl, ← c4, List.take_left, List.drop_append, List.drop_of_length_le (by omega), List.nil_append]
              congr 2
              omega
            rw [e1] at hst
            have hr := hw.rng _ _ _ hρ
            have hfree : ∀ cc y, (S.del b).live cc → ρ cc = some (r, y) → False := fun cc y hl ec => by
              obtain ⟨h1, h2⟩ := AS.live_del hl
              exact h1 (hw.inj cc b r y xx h2 ⟨_, hb⟩ ec hρ)
            have hle := Rho.le_add (r := (r, xx - m)) (hww.dom _ (Nat.le_refl _))
            have hjc := joinK_cells (Nat.beq i.size 1) hc hcl
            have htl : (tail.drop (m * i.size)).length = (xx - m) * i.size := by rw [List.length_drop, ht, Nat.sub_mul]
            have hll : (us ++ news).length = n * i.size + m * i.size := by rw [List.length_append, c4, hnl]
            have hw2 := hww.link (x := xx - m) (o := .cells el1 i.size (joinK (Nat.beq i.size 1) cs l)) (u := .cells ((us ++ news) ++ tail.drop (m * i.size)).toArray el1 fz) hr hfree (.cells (hjc.mono hle) htl (by
              have : (us ++ news).length + (tail.drop (m * i.size)).length = us.length + tail.length := by rw [hll, List.length_drop]; omega
              rw [this]; exact hf))
            refine ⟨_, _, _, _, .slice (some ⟨r, 0, none⟩) (n + m) (n + xx), h9, hle, (Keep.del hρ).trans .new, hw2, ?_, .inl (fin ?_)⟩
            · have := Den.sl (ρ := ρ.add (S.del b).next (r, xx - m)) (b := (S.del b).next) (o := 0) (len := n + m) (cap := n + m) (op := true) (Rho.add_same _ _ _)
              rw [if_pos rfl, show n + m + (xx - m) = n + xx by omega] at this
              exact this
            · refine run_append_room' hu hux hi o.type ats ha ha1 hlx hfx (by omega) ?_
              show (storeCells ((⟨r, 0, none⟩ : Addr).add (n * i.size)) news).run P w = _
              rw [Addr.add_mid, Nat.zero_add]
              exact hst
        · subst hop
          obtain ⟨old, hold, h⟩ := onSome_some h
          have h := newK_some h
          obtain ⟨hlen, hco⟩ := segsK_some hc hold
          have hlen : q + n * i.size ≤ us.length := hlen
          have hol : ((us.drop q).take (n * i.size)).length = n * i.size := by rw [List.length_take, List.length_drop]; omega
          have hfo := run_firstCells_some (P := P) w.drew i.size n ⟨r, q, none⟩ n cap ((us.drop q).take (n * i.size)) hol (cells_read (w := w.drew) hh q _ hlen)
          have e0 : (if false = true then cap + xx else cap) = cap := rfl
          rw [e0] at hes fin hnew
          exact hnew S _ n cap _ old hw (.refl ρ S) rfl hol hco hfo k1 (by omega) (by omega) _ h
end Go.Proofs.YtpochibfjpanhaaGreat.Exe
