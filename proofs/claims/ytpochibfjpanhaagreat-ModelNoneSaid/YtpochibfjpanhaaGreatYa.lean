/- A part of the machine that reckons a closed run, and of the proof that what it says the given program does. No conditions. -/
import Derived.Test.YtpochibfjpanhaaGreatXz
import Derived.Laws.Tables
import Derived.Great.BuildSlice
set_option linter.unusedVariables false
set_option linter.unusedSimpArgs false
namespace Go.Proofs.YtpochibfjpanhaaGreat.Exe
open Go
variable {base w : World} {P : Program} {ρ : Rho} {S : AS} {t : T} {e : Operand → Value} {o : Oper} {c : K} {z : AV × Option AS}

/-! ### Small values -/
theorem s_lenOf {x : Operand} {x' : AR} {ats : Array TypeId} {ty : TypeId} {d : TypeDesc} {kd : Nat} (ho : o.op = .call { callee := .builtin .len, args := #[x], argTypes := ats }) (ha : ats[0]? = some ty) (hu : P.underlying ty = some d)
    (hk : (d = .string ∧ kd = 0) ∨ ((∃ el, d = .slice el) ∧ kd = 1) ∨ ((∃ k v, d = .map k v) ∧ kd = 2)) (hx : ofOperand x = some x') (he : EvRel ρ t e) (hw : WRel base ρ S w) (h : kLenOf kd x' t S c = some z) : OpVal P ρ S e o w c z := by
  obtain ⟨h1, h2⟩ := ifB_some h
  have h1 := beq_true h1
  refine s_lenAny ho ha hu (fun u v hv _ => ?_) hx he hw h2
  rw [hv] at h1
  rcases hk with ⟨rfl, rfl⟩ | ⟨⟨el, rfl⟩, rfl⟩ | ⟨⟨k, vv, rfl⟩, rfl⟩ <;> cases v <;> first | trivial | exact absurd h1 (by intro h; cases h)

theorem s_strOp {op : BinOp} {ty yt : TypeId} {x y : Operand} {x' y' : AR} (ho : o.op = .binOp op ty x y yt) (hx : ofOperand x = some x') (hy : ofOperand y = some y') (he : EvRel ρ t e) (hw : WRel base ρ S w)
    (h : kStrOp op x' y' t S c = some z) : OpVal P ρ S e o w c z := by
  obtain ⟨a, hva, h1⟩ := onStr_some h
  obtain ⟨b, hvb, h2⟩ := onStr_some (show onStr (ev y' t) _ = some z from h1)
  obtain ⟨v, hv, h3⟩ := retO_some h2
  have hdx := he x x' hx
  have hdy := he y y' hy
  rw [hva] at hdx
  rw [hvb] at hdy
  generalize hex : e x = ex at hdx
  generalize hey : e y = ey at hdy
  cases hdx; cases hdy
  have e1 : (a.toList == b.toList) = strEq a b := by rw [ByteArray.toList_eq, ByteArray.toList_eq, strEq_eq]
  cases op <;> first | (cases hv; done) | skip
  · obtain ⟨hs, hv⟩ := ifB_some (show ifB (Nat.ble (Nat.add a.size b.size) 4611686018427387904) (some (AV.str (a ++ b))) none = some v from hv)
    have hs : a.size + b.size ≤ 4611686018427387904 := ble_true hs
    cases hv
    refine .pure h3 hw (.str _) ?_
    simp [execOp, ho, hex, hey, eqGuard, binOp, Op.stringOp]
    have e9 : IntKind.i64.max = 9223372036854775807 := by decide
    omega
  · cases hv
    refine .pure h3 hw (.bool _) ?_
    simp only [execOp, ho, hex, hey, eqGuard, binOp, Op.stringOp, e1]
    rfl
  · cases hv
    refine .pure h3 hw (.bool _) ?_
    simp only [execOp, ho, hex, hey, eqGuard, binOp, Op.stringOp, e1, ifB_not]
    rfl

theorem nthK_some {A : Type} : ∀ {l : List A} {n : Nat} {a : A}, nthK l n = some a → l[n]? = some a
  | [], _, _, h => by cases h
  | b :: l, n, a, h => by
    rcases ifB_or (show ifB (Nat.beq n 0) (some b) (nthK l (n - 1)) = some a from h) with ⟨hb, h⟩ | ⟨hb, h⟩
    · have := beq_true hb; subst this; cases h; rfl
    · have := beq_false hb
      obtain ⟨m, rfl⟩ : ∃ m, n = m + 1 := ⟨n - 1, by omega⟩
      have h : nthK l m = some a := h
      simpa using nthK_some h

theorem s_ixString {ty : TypeId} {x i : Operand} {x' i' : AR} (ho : o.op = .index ty x i) (hu : P.underlying ty = some .string) (hx : ofOperand x = some x') (hi : ofOperand i = some i') (he : EvRel ρ t e) (hw : WRel base ρ S w)
    (h : kIxString x' i' t S c = some z) : OpVal P ρ S e o w c z := by
  obtain ⟨s, hvs, h1⟩ := onStr_some h
  obtain ⟨kd, m, hvi, h2⟩ := onNat_some h1
  obtain ⟨b, hb, h3⟩ := onSome_some h2
  have hdx := he x x' hx
  have hdi := he i i' hi
  rw [hvs] at hdx
  rw [hvi] at hdi
  generalize hex : e x = ex at hdx
  generalize hei : e i = ei at hdi
  cases hdx; cases hdi
  have hb := nthK_some hb
  have hlt : m < s.size := by
    rcases Nat.lt_or_ge m s.data.toList.length with h' | h'
    · simpa using h'
    · rw [List.getElem?_eq_none h'] at hb; cases hb
  have hb2 : s[m]? = some b := by
    rw [ByteArray.getElem?_lt' s m hlt]
    have : s.data.toList[m]? = some s[m] := by
      rw [List.getElem?_eq_getElem (by simpa using hlt)]
      rfl
    rw [this] at hb
    exact hb
  refine .pure h3 hw (.int _ _) ?_
  simp [execOp, ho, hex, hei, Instr.index, asIntOf, run_underlying hu, hb2]

theorem s_ixArray {ty el : TypeId} {x i : Operand} {x' i' : AR} {len n : Nat} {d : TypeDesc} (ho : o.op = .index ty x i) (hu : P.underlying ty = some (.array len el)) (hue : P.underlying el = some d) (hn : (P.info? el).map (·.size) = some n) (hx : ofOperand x = some x') (hi : ofOperand i = some i') (he : EvRel ρ t e) (hw : WRel base ρ S w)
    (h : kIxArray len n (aggT P el) x' i' t S c = some z) : OpVal P ρ S e o w c z := by
  obtain ⟨cs, hvs, h1⟩ := onAgg_some h
  obtain ⟨kd, m, hvi, h2⟩ := onNat_some h1
  obtain ⟨hlt, h3⟩ := ifB_some (show ifB (Nat.blt m len) _ none = some z from h2)
  obtain ⟨v, hv, h4⟩ := retO_some h3
  have hlt : m < len := ble_true hlt
  have hdx := he x x' hx
  have hdi := he i i' hi
  rw [hvs] at hdx
  rw [hvi] at hdi
  obtain ⟨us, hex, hcs, _⟩ := row_cells hdx
  generalize hei : e i = ei at hdi
  cases hdi
  cases hq : P.info? el with
  | none => rw [hq] at hn; cases hn
  | some ti =>
    have hsz : ti.size = n := by rw [hq] at hn; simpa using hn
    rcases valueK_some hcs hv with ⟨ha, hlen, hden⟩ | ⟨ha, u, hu2, hden, _⟩
    · refine .pure h4 hw hden ?_
      have e1 : us.toArray.extract (m * n) (m * n + n) = ((us.drop (m * n)).take n).toArray := by
        apply Array.toList_inj.1
        simp [List.extract]
      simp [execOp, ho, hex, hei, Instr.index, asIntOf, run_underlying hu, hlt, sizeOf, typeInfo, hq, hsz, part, run_isAgg_any hue, ha, e1]
    · have hu2 : us[m * n]? = some u := hu2
      refine .pure h4 hw hden ?_
      have hlen : m * n < us.length := by
        rcases Nat.lt_or_ge (m * n) us.length with h' | h'
        · exact h'
        · rw [List.getElem?_eq_none h'] at hu2; cases hu2
      have e2 : us[m * n] = u := by rw [List.getElem?_eq_getElem hlen] at hu2; exact Option.some.inj hu2
      simp [execOp, ho, hex, hei, Instr.index, asIntOf, run_underlying hu, hlt, sizeOf, typeInfo, hq, hsz, part, run_isAgg_any hue, ha, hu2, hlen, e2]

theorem evs_rel {l : List Operand} {as : List AR} (h : ofOperands l = some as) (he : EvRel ρ t e) : DenL ρ (evs as t) (l.map e) := by
  induction l generalizing as with
  | nil => cases h; exact .nil
  | cons x r ih =>
    simp only [ofOperands, Option.bind_eq_some_iff, Option.map_eq_some_iff] at h
    obtain ⟨a, ha, as', has, rfl⟩ := h
    exact .cons (he x a ha) (ih has)

theorem s_minmax {b : Builtin} {mx : Bool} {args : Array Operand} {ats : Array TypeId} {as : List AR} (ho : o.op = .call { callee := .builtin b, args := args, argTypes := ats }) (hb : (b = .max ∧ mx = true) ∨ (b = .min ∧ mx = false)) (ha : ofOperands args.toList = some as) (he : EvRel ρ t e) (hw : WRel base ρ S w)
    (h : kMinmax mx as t S c = some z) : OpVal P ρ S e o w c z := by
  have hl := evs_rel ha he
  unfold kMinmax at h
  generalize evs as t = vs at h hl
  generalize hus : args.toList.map e = us at hl
  have hargs : args.map e = us.toArray := by
    apply Array.toList_inj.1
    simp [hus]
  cases hl with
  | nil => cases h
  | @cons v u vs us hv hl =>
    obtain ⟨k, a, rfl, h⟩ := onInt_some (show onInt v (fun k a => mm mx k vs a none fun n => c (.int k n) S) = some z from h)
    cases hv
    have key : ∀ (vs : List AV) (us : List Value) (a : Int), DenL ρ vs us → mm mx k vs a none (fun n => c (.int k n) S) = some z →
        ∃ n, c (.int k n) S = some z ∧ (us.foldlM (if mx then Builtin.max2 else Builtin.min2) (.int k a)).run P w = .ok (.int k n) w := by
      intro vs
      induction vs with
      | nil => intro us a hl h; cases hl; exact ⟨a, h, rfl⟩
      | cons v vs ih =>
        intro us a hl h
        cases hl with
        | @cons _ u _ us hv hl =>
          obtain ⟨k', b, rfl, h9⟩ := onInt_some (show onInt v (fun _ b => ifB mx (ifB (ltK a b) (mm mx k vs b none fun n => c (.int k n) S) (mm mx k vs a none fun n => c (.int k n) S)) (ifB (ltK b a) (mm mx k vs b none fun n => c (.int k n) S) (mm mx k vs a none fun n => c (.int k n) S))) = some z from h)
          cases hv
          have h : ifB mx (ifB (ltK a b) (mm mx k vs b none fun n => c (.int k n) S) (mm mx k vs a none fun n => c (.int k n) S)) (ifB (ltK b a) (mm mx k vs b none fun n => c (.int k n) S) (mm mx k vs a none fun n => c (.int k n) S)) = some z := h9
          rw [ltK_eq, ltK_eq] at h
          cases mx with
          | true =>
            by_cases hlt : a < b
            · rw [decide_eq_true hlt] at h
              obtain ⟨n, h1, h2⟩ := ih us b hl h
              exact ⟨n, h1, by simp [List.foldlM_cons, Builtin.max2, hlt]; simpa using h2⟩
            · rw [decide_eq_false hlt] at h
              obtain ⟨n, h1, h2⟩ := ih us a hl h
              exact ⟨n, h1, by simp [List.foldlM_cons, Builtin.max2, hlt]; simpa using h2⟩
          | false =>
            by_cases hlt : b < a
            · rw [decide_eq_true hlt] at h
              obtain ⟨n, h1, h2⟩ := ih us b hl h
              exact ⟨n, h1, by simp [List.foldlM_cons, Builtin.min2, hlt]; simpa using h2⟩
            · rw [decide_eq_false hlt] at h
              obtain ⟨n, h1, h2⟩ := ih us a hl h
              exact ⟨n, h1, by simp [List.foldlM_cons, Builtin.min2, hlt]; simpa using h2⟩
    obtain ⟨n, h1, h2⟩ := key vs us a hl h
    refine .pure h1 hw (.int _ _) ?_
    rcases hb with ⟨rfl, rfl⟩ | ⟨rfl, rfl⟩
    · simp only [execOp, ho, resolve, hargs]
      simp [invoke, builtin, Builtin.max_]
      simp at h2
      simp [h2]
    · simp only [execOp, ho, resolve, hargs]
      simp [invoke, builtin, Builtin.min_]
      simp at h2
      simp [h2]

/-! ### Values with parts -/
theorem foldl_set (off : Nat) : ∀ (vs : List Value) (k : Nat) (cells : Array Value), off + k + vs.length ≤ cells.size →
    ((vs.zipIdx k).foldl (fun cs p => cs.setIfInBounds (off + p.2) p.1) cells).toList = cells.toList.take (off + k) ++ vs ++ cells.toList.drop (off + k + vs.length)
  | [], k, cells, _ => by simp
  | v :: vs, k, cells, h => by
    have h : off + k + (vs.length + 1) ≤ cells.size := h
    rw [List.zipIdx_cons, List.foldl_cons]
    rw [foldl_set off vs (k + 1) _ (by rw [Array.size_setIfInBounds]; omega)]
    have hl : (cells.setIfInBounds (off + k) v).toList = cells.toList.take (off + k) ++ [v] ++ cells.toList.drop (off + k + 1) := by
      rw [Array.toList_setIfInBounds, take_set_drop _ _ _ (by simp; omega)]
    rw [hl]
    have e1 : (cells.toList.take (off + k)).length = off + k := by simp; omega
    have e2 : (cells.toList.take (off + k) ++ [v]).length = off + k + 1 := by rw [List.length_append, e1]; rfl
    rw [show off + (k + 1) = off + k + 1 by omega, show off + k + 1 + vs.length = (off + k + 1) + vs.length from rfl]
    rw [List.take_append_of_le_length (by omega), List.take_of_length_le (by omega), List.drop_append, e2, List.drop_of_length_le (by omega), List.nil_append, List.drop_drop]
    simp only [List.length_cons, List.append_assoc, List.singleton_append, List.nil_append, List.cons_append]
    congr 3
    congr 1
    omega

theorem fill_rel {place : Nat → Option (Nat × Nat)} (he : EvRel ρ t e) : ∀ (ps : List (Nat × Operand)) (l : List (Nat × Nat × AR)) (cells : Array Value) (cs r : List AV), partsOf place ps = some l → Cells ρ cs cells.toList → fillK (partsK l t) cs = some r →
    ∃ cells', Instr.fill place cells (ps.map fun p => (p.1, e p.2)) = some cells' ∧ Cells ρ r cells'.toList
  | [], l, cells, cs, r, hp, hc, h => by
    cases hp
    cases h
    exact ⟨cells, rfl, hc⟩
  | p :: ps, l, cells, cs, r, hp, hc, h => by
    simp only [partsOf, Option.bind_eq_some_iff, Option.map_eq_some_iff] at hp
    obtain ⟨q, hq, x, hx, l', hl', rfl⟩ := hp
    obtain ⟨cs', hput, h⟩ := onSome_some (show onSome (putValK cs q.1 q.2 (ev x t)) (fillK (partsK l' t)) = some r from h)
    obtain ⟨h1, h2, h3, h4⟩ := putValK_some hc (he p.2 x hx) hput
    have hll : (e p.2).cells.toList.length = q.2 := by rw [Array.length_toList]; exact h1
    have hf := foldl_set q.1 (e p.2).cells.toList 0 cells (by simp at h2; omega)
    have e1 : (e p.2).cells.zipIdx.foldl (fun cs p => cs.setIfInBounds (q.1 + p.2) p.1) cells = ((e p.2).cells.toList.zipIdx 0).foldl (fun cs p => cs.setIfInBounds (q.1 + p.2) p.1) cells := by
      rw [← Array.foldl_toList, Array.toList_zipIdx]
    rw [hll, Nat.add_zero] at hf
    rw [← hf] at h4
    obtain ⟨cells', h5, h6⟩ := fill_rel he ps l' _ cs' r hl' h4 h
    refine ⟨cells', ?_, h6⟩
    rw [← h5]
    have hno : ((e p.2).cells.size ≠ q.2 || decide (q.1 + (e p.2).cells.size > cells.size)) = false := by
      simp at h2
      simp [h1]
      omega
    simp only [List.map_cons, Instr.fill, hq]
    rw [e1, hno]
    rfl

theorem s_build {ty : TypeId} {ps : Array (Nat × Operand)} {zs : List AV} {l : List (Nat × Nat × AR)} {place : Nat → Option (Nat × Nat)} (ho : o.op = .build ty ps) (hz : zeroOf P ty = some zs) (hpl : ∀ parts zv i, P.info? ty = some i → i.zero = some zv → P.built ty parts = Instr.fill place zv.cells parts) (hl : partsOf place ps.toList = some l) (he : EvRel ρ t e) (hw : WRel base ρ S w)
    (h : kBuild zs l t S c = some z) : OpVal P ρ S e o w c z := by
  obtain ⟨i, zv, hi, hzv, hc⟩ := zeroOf_some (ρ := ρ) hz
  obtain ⟨cs, hf, h⟩ := onSome_some h
  obtain ⟨cells', h1, h2⟩ := fill_rel he ps.toList l zv.cells zs cs hl hc hf
  refine .pure h hw (.agg h2) ?_
  have hb : P.built ty (ps.map fun (i, x) => (i, e x)).toList = some cells' := by
    rw [hpl _ zv i hi hzv, ← h1]
    congr 1
    simp
  have := run_build (P := P) w ty (ps.map fun (i, x) => (i, e x)) cells' hb
  simp [execOp, ho, this]

theorem built_array {ty el : TypeId} {n : Nat} {ie : TypeInfo} (hu : P.underlying ty = some (.array n el)) (hie : P.info? el = some ie) (parts : List (Nat × Value)) (zv : Value) (i : TypeInfo) (hi : P.info? ty = some i) (hz : i.zero = some zv) :
    P.built ty parts = Instr.fill (fun i => some (i * ie.size, ie.size)) zv.cells parts := by
  simp [Program.built, hi, hu, hz, hie]
theorem placesOf_some : ∀ {fs : List Field} {l : List (Nat × Nat)}, placesOf P fs = some l → fs.mapM (fun f => (P.info? f.type).map fun i => (f.offset, i.size)) = some l
  | [], l, h => by cases h; rfl
  | f :: fs, l, h => by
    simp only [placesOf, Option.bind_eq_some_iff, Option.map_eq_some_iff] at h
    obtain ⟨i, hi, l', hl', rfl⟩ := h
    simp [List.mapM_cons, hi, placesOf_some hl']
theorem built_struct {ty : TypeId} {fs : Array Field} {l : List (Nat × Nat)} (hu : P.underlying ty = some (.struct fs)) (hl : placesOf P fs.toList = some l) (parts : List (Nat × Value)) (zv : Value) (i : TypeInfo) (hi : P.info? ty = some i) (hz : i.zero = some zv) :
    P.built ty parts = Instr.fill (fun i => l[i]?) zv.cells parts := by
  have := placesOf_some hl
  simp [Program.built, hi, hu, hz, this]
end Go.Proofs.YtpochibfjpanhaaGreat.Exe
