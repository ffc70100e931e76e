/- A part of the machine that reckons a closed run, and of the proof that what it says the given program does. No conditions. -/
import Derived.Test.YtpochibfjpanhaaGreatXi
set_option linter.unusedVariables false
set_option linter.unusedSimpArgs false
namespace Go.Proofs.YtpochibfjpanhaaGreat.Exe
open Go
variable {base w : World} {P : Program} {ρ : Rho} {S : AS} {t : T} {e : Operand → Value} {o : Oper} {c : K} {z : AV × Option AS}

theorem aggT_true {ty : TypeId} (h : aggT P ty = true) : ∃ d, P.underlying ty = some d ∧ d.isRow = true := by
  unfold aggT at h
  split at h
  · rename_i fs hu; exact ⟨_, hu, rfl⟩
  · rename_i n e hu; exact ⟨_, hu, rfl⟩
  · cases h
theorem run_isAgg_false {ty : TypeId} {d : TypeDesc} (hu : P.underlying ty = some d) (h : aggT P ty = false) (w : World) : (isAgg ty).run P w = .ok false w := by
  unfold isAgg
  rw [Sem.run_bind, run_underlying hu w]
  unfold aggT at h
  rw [hu] at h
  cases d <;> first | rfl | cases h

theorem cell?_of {w : World} {r : Nat} {l : List Value} {e : TypeId} {fz : Nat × Nat} {off : Nat} {u : Value} (h : w.heap[r]? = some (.cells l.toArray e fz)) (hu : l[off]? = some u) : w.cell? ⟨r, off, none⟩ = some u := by
  unfold World.cell?
  simp only [h, Option.isSome_none, Bool.false_eq_true, if_false]
  simpa using hu

theorem s_load {ty : TypeId} {x : Operand} {y : AR} {n : Nat} {d : TypeDesc} (ho : o.op = .load ty x) (hd : P.underlying ty = some d) (hn : (P.info? ty).map (·.size) = some n)
    (hx : ofOperand x = some y) (he : EvRel ρ t e) (hw : WRel base ρ S w) (h : kLoad (aggT P ty) n y t S c = some z) : OpVal P ρ S e o w c z := by
  obtain ⟨b, off, hv, h⟩ := onPtr_some h
  obtain ⟨el, es, cs, hb, h⟩ := onCells_some h
  obtain ⟨v, hval, h⟩ := retO_some h
  have hdx := he x y hx
  rw [hv] at hdx
  generalize hex : e x = ex at hdx
  cases hdx with
  | @ptr _ _ r x' hρ =>
    obtain ⟨us, tail, fz, hh, hc, _, _⟩ := hw.cells hb hρ
    rcases valueK_some hc hval with ⟨ha, hlen, hden⟩ | ⟨ha, u, hu, hden, _⟩
    · obtain ⟨d', hd', hrow⟩ := aggT_true ha
      have hr := rangeAt_of hh off n
      have e1 : ((us ++ tail).drop off).take n = (us.drop off).take n := by
        rw [List.drop_append_of_le_length (by omega), List.take_append_of_le_length (by rw [List.length_drop]; omega)]
      rw [e1] at hr
      have hl : ((us.drop off).take n).length = n := by rw [List.length_take, List.length_drop]; omega
      exact .pure h hw hden (by
        have := run_loadAt_mid (P := P) w r off ty _ d' hr hd' hrow (by rw [hl]; exact hn)
        simp [execOp, ho, hex, this])
    · have hcell : w.cell? ⟨r, off, none⟩ = some u := cell?_of hh (by rw [List.getElem?_append_left (by rcases Nat.lt_or_ge off us.length with h' | h'; exact h'; rw [List.getElem?_eq_none h'] at hu; cases hu)]; exact hu)
      exact .pure h hw hden (by
        simp [execOp, ho, hex, Instr.loadAt, Instr.sureAddr, loadVar, run_isAgg_false hd ha, load, Sem.run, hcell])

theorem s_store {ty : TypeId} {a x : Operand} {a' x' : AR} {n : Nat} (ho : o.op = .store ty a x) (hn : (P.info? ty).map (·.size) = some n)
    (ha : ofOperand a = some a') (hx : ofOperand x = some x') (he : EvRel ρ t e) (hw : WRel base ρ S w) (h : kStore n a' x' t S c = some z) : OpPost base P ρ S e o w c z := by
  obtain ⟨b, off, hv, h⟩ := onPtr_some h
  obtain ⟨el, es, cs, hb, h⟩ := onCells_some h
  obtain ⟨cs', hput, h⟩ := onSome_some h
  have hda := he a a' ha
  rw [hv] at hda
  generalize hea : e a = ea at hda
  cases hda with
  | @ptr _ _ r q hρ =>
    obtain ⟨us, tail, fz, hh, hc, htl, hfz⟩ := hw.cells hb hρ
    obtain ⟨hsz, hlen, hone, hcs⟩ := putValK_some hc (he x x' hx) hput
    have hll : (e x).cells.toList.length = n := by rw [Array.length_toList]; exact hsz
    have hthere : w.there r off (e x).cells.size := there_of hh (by rw [List.length_append]; exact hfz.free) off _ (by rw [List.length_append, hsz]; omega)
    have hrun : (Instr.storeAt ty (.pointer (some ⟨r, off, none⟩)) (e x)).run P w = .ok () (w.setCells r off (e x).cells.toList) := by
      have hall : (e x).cells.all (·.oneCell') = true := by
        rw [Array.all_eq_true_iff_forall_mem]
        exact fun v hv => hone v (by simpa using hv)
      have := run_storeAt_mid (P := P) w r off ty (e x).cells hthere (by rw [hsz]; exact hn) hall
      exact this
    have hset := setCells_heap r el fz (e x).cells.toList off w (us ++ tail) hh (by rw [List.length_append, hll]; omega)
    have e1 : (us ++ tail).take off ++ (e x).cells.toList ++ (us ++ tail).drop (off + (e x).cells.toList.length) = us.take off ++ (e x).cells.toList ++ us.drop (off + n) ++ tail := by
      rw [hll, List.take_append_of_le_length (by omega), List.drop_append_of_le_length (by omega)]
      simp
    rw [e1] at hset
    have hlen2 : (us.take off ++ (e x).cells.toList ++ us.drop (off + n)).length = us.length := by simp [hll]; omega
    refine ⟨_, _, ρ, _, undef, h, ρ.le_refl, .put hρ, hw.put ⟨_, hb⟩ hρ (.cells hcs htl (by rw [hlen2]; exact hfz)), .tup .nil, .inr ⟨?_, rfl⟩⟩
    rw [← hset]
    simp [execOp, ho, hea, hrun]

theorem zeroOf_some {ty : TypeId} {cs : List AV} (h : zeroOf P ty = some cs) : ∃ i zv, P.info? ty = some i ∧ i.zero = some zv ∧ Cells ρ cs zv.cells.toList := by
  unfold zeroOf at h
  cases hi : P.info? ty with
  | none => rw [hi] at h; cases h
  | some i =>
    rw [hi] at h
    simp only [Option.bind_some] at h
    cases hz : i.zero with
    | none => rw [hz] at h; cases h
    | some zv =>
      rw [hz] at h
      exact ⟨i, zv, rfl, hz, packCells_some h⟩

theorem s_alloc {ty : TypeId} {cs : List AV} {es : Nat} (ho : o.op = .alloc ty) (hz : zeroOf P ty = some cs) : OpMk P ρ e o w (.cells ty es cs) (fun b => .ptr b 0) := by
  obtain ⟨i, zv, hi, hzv, hc⟩ := zeroOf_some (ρ := ρ) hz
  refine OpMk.cells (uf := fun r => .pointer (some ⟨r, 0, none⟩)) hc (fun ρ' b r hρ => .ptr hρ) ?_
  simp [execOp, ho, Instr.alloc, zeroValue, typeInfo, hi, hzv, newVar, newRow, newObj]
  rfl

theorem rowK_some {v : AV} {k : List AV → R} (h : rowK v k = some z) : ∃ cs, (∀ k, rowK v k = k cs) ∧ k cs = some z ∧ ∀ (ρ : Rho) (u : Value), Den ρ v u → Cells ρ cs u.cells.toList := by
  rcases ifB_or (show ifB (isOne v) (k [v]) (onAgg v k) = some z from h) with ⟨ho, h⟩ | ⟨ho, h⟩
  · exact ⟨_, fun k => by show ifB (isOne v) (k [v]) (onAgg v k) = _; rw [ho]; rfl, h, fun ρ u d => by rw [(one_cells ho d).1]; exact .one ho d .nil⟩
  · obtain ⟨cs, rfl, h⟩ := onAgg_some h
    exact ⟨cs, fun k => rfl, h, fun ρ u d => by obtain ⟨us, _, hc, e⟩ := row_cells d; rw [e]; exact hc⟩

theorem s_box {ty : TypeId} {x : Operand} {y : AR} {es : Nat} (ho : o.op = .box ty x) (hx : ofOperand x = some y) (h : kBox ty es y t S c = some z) :
    ∃ ob, (∀ S c, kBox ty es y t S c = newK S ob fun b S => c (.ptr b 0) S) ∧ ∀ ρ e w, EvRel ρ t e → OpMk P ρ e o w ob (fun b => .ptr b 0) := by
  obtain ⟨cs, hk, h, hcs⟩ := rowK_some h
  obtain ⟨hb, h⟩ := ifB_some h
  refine ⟨.cells ty es cs, fun S c => ?_, fun ρ e w he => OpMk.cells (uf := fun r => .pointer (some ⟨r, 0, none⟩)) (hcs ρ _ (he x y hx)) (fun ρ' b r hρ => .ptr hρ) ?_⟩
  · show rowK _ _ = _
    rw [hk, hb]
    rfl
  · simp [execOp, ho, Instr.box, newVar, newRow, newObj]
    rfl

theorem nilNo_den {v : AV} {u : Value} (d : Den ρ v u) (h : 11 ≤ nilNo v) : u ≠ .pointer none ∧ u ≠ .nilIface ∧ u ≠ .nilFunc ∧ ∀ m a b, u ≠ .func (.method m) a b := by
  cases d <;> first | exact absurd h (by decide) | exact absurd (show (11 : Nat) ≤ 0 from h) (by decide) | exact ⟨by simp, by simp, by simp, by simp⟩

theorem s_nilCheck {x : Operand} {y : AR} (ho : o.op = .nilCheck x) (hx : ofOperand x = some y) (he : EvRel ρ t e) (hw : WRel base ρ S w) (h : kNilCheck y t S c = some z) : OpVal P ρ S e o w c z := by
  obtain ⟨h1, h⟩ := ifB_some h
  obtain ⟨a1, a2, a3, a4⟩ := nilNo_den (he x y hx) (ble_true h1)
  refine .pure h hw (he x y hx) ?_
  simp only [execOp, ho]
  rfl

theorem s_extract {x : Operand} {y : AR} {i : Nat} (ho : o.op = .extract x i) (hx : ofOperand x = some y) (he : EvRel ρ t e) (hw : WRel base ρ S w) (h : kExtract y i t S c = some z) : OpVal P ρ S e o w c z := by
  obtain ⟨vs, hv, h⟩ := onTup_some h
  obtain ⟨v, hn, h⟩ := retO_some h
  have hdx := he x y hx
  rw [hv] at hdx
  generalize hex : e x = ex at hdx
  cases hdx with
  | @tup _ us hl =>
    have key : ∀ (vs : List AV) (us : List Value) (i : Nat), DenL ρ vs us → nthK vs i = some v → ∃ u, us[i]? = some u ∧ Den ρ v u := by
      intro vs
      induction vs with
      | nil => intro us i _ h; cases h
      | cons a r ih =>
        intro us i hl h
        cases hl with
        | cons d hl =>
          rcases ifB_or (show ifB (Nat.beq i 0) (some a) (nthK r (i - 1)) = some v from h) with ⟨hb, h⟩ | ⟨hb, h⟩
          · have := beq_true hb; subst this; cases h; exact ⟨_, rfl, d⟩
          · have := beq_false hb
            obtain ⟨u, hu, hd⟩ := ih _ _ hl h
            obtain ⟨j, rfl⟩ : ∃ j, i = j + 1 := ⟨i - 1, by omega⟩
            exact ⟨u, by simpa using hu, hd⟩
    obtain ⟨u, hu, hd⟩ := key vs us i hl hn
    exact .pure h hw hd (by simp [execOp, ho, hex, Instr.extract, hu])

theorem s_atSlice {ty el : TypeId} {x i : Operand} {x' i' : AR} {es : Nat} (ho : o.op = .indexAddr ty x i) (hu : P.underlying ty = some (.slice el)) (hn : (P.info? el).map (·.size) = some es)
    (hx : ofOperand x = some x') (hi : ofOperand i = some i') (he : EvRel ρ t e) (hw : WRel base ρ S w) (h : kAtSlice es x' i' t S c = some z) : OpVal P ρ S e o w c z := by
  obtain ⟨b, off, len, cap, op, hv, h⟩ := onSl_some h
  obtain ⟨kd, m, hm, h⟩ := onNat_some h
  obtain ⟨h1, h⟩ := ifB_some h
  rw [forceN_eq] at h
  have h1 : m < len := Nat.lt_of_lt_of_le (Nat.lt_succ_self m) (ble_true h1)
  have hdx := he x x' hx
  have hdi := he i i' hi
  rw [hv] at hdx
  rw [hm] at hdi
  generalize hex : e x = ex at hdx
  generalize hei : e i = ei at hdi
  cases hdx with
  | @sl _ _ _ _ r q _ hρ =>
    cases hdi with
    | int =>
      cases hq : P.info? el with
      | none => rw [hq] at hn; cases hn
      | some ti =>
        have hsz : ti.size = es := by rw [hq] at hn; simpa using hn
        refine .pure h hw (.ptr hρ) ?_
        have e1 : (⟨r, off, none⟩ : Addr).add (m * es) = ⟨r, off + m * es, none⟩ := Addr.add_mid r off (m * es)
        simp [execOp, ho, hex, hei, Instr.indexAt, asIntOf, run_underlying hu, sizeOf, typeInfo, hq, hsz, h1, e1]

theorem s_atArray {ty el : TypeId} {x i : Operand} {x' i' : AR} {len es : Nat} (ho : o.op = .indexAddr ty x i) (hu : P.underlying ty = some (.array len el)) (hn : (P.info? el).map (·.size) = some es)
    (hx : ofOperand x = some x') (hi : ofOperand i = some i') (he : EvRel ρ t e) (hw : WRel base ρ S w) (h : kAtArray len es x' i' t S c = some z) : OpVal P ρ S e o w c z := by
  obtain ⟨b, off, hv, h⟩ := onPtr_some h
  obtain ⟨kd, m, hm, h⟩ := onNat_some h
  obtain ⟨h1, h⟩ := ifB_some h
  rw [forceN_eq] at h
  have h1 : m < len := Nat.lt_of_lt_of_le (Nat.lt_succ_self m) (ble_true h1)
  have hdx := he x x' hx
  have hdi := he i i' hi
  rw [hv] at hdx
  rw [hm] at hdi
  generalize hex : e x = ex at hdx
  generalize hei : e i = ei at hdi
  cases hdx with
  | @ptr _ _ r q hρ =>
    cases hdi with
    | int =>
      cases hq : P.info? el with
      | none => rw [hq] at hn; cases hn
      | some ti =>
        have hsz : ti.size = es := by rw [hq] at hn; simpa using hn
        refine .pure h hw (.ptr hρ) ?_
        have e1 : (⟨r, off, none⟩ : Addr).add (m * es) = ⟨r, off + m * es, none⟩ := Addr.add_mid r off (m * es)
        simp [execOp, ho, hex, hei, Instr.indexAt, asIntOf, run_underlying hu, Instr.sureAddr, sizeOf, typeInfo, hq, hsz, h1, e1]
end Go.Proofs.YtpochibfjpanhaaGreat.Exe
