/- A part of the machine that reckons a closed run, and of the proof that what it says the given program does. No conditions. -/
import Derived.Test.YtpochibfjpanhaaGreatYa
import Derived.Laws.Append
import Derived.Laws.IdiomCopy
set_option linter.unusedVariables false
set_option linter.unusedSimpArgs false
namespace Go.Proofs.YtpochibfjpanhaaGreat.Exe
open Go
variable {base w : World} {P : Program} {ρ : Rho} {S : AS} {t : T} {e : Operand → Value} {o : Oper} {c : K} {z : AV × Option AS}

/-! ### Rows of noughts -/
theorem timesK_cells {zs : List AV} {us : List Value} (h : Cells ρ zs us) : ∀ n, Cells ρ (timesK n zs) ((List.replicate n us).flatten)
  | 0 => .nil
  | n + 1 => by
    rw [List.replicate_succ, List.flatten_cons]
    exact h.append (timesK_cells h n)
theorem byteVals_zero : ∀ n, byteVals n 0 = List.replicate n (.int .u8 0)
  | 0 => rfl
  | n + 1 => by
    show Value.int .u8 ((0 % 256 : Nat) : Int) :: byteVals n (0 / 256) = _
    rw [show 0 / 256 = 0 from rfl, byteVals_zero n, List.replicate_succ]
    rfl
theorem flatten_one {A : Type} (a : A) : ∀ n, (List.replicate n [a]).flatten = List.replicate n a
  | 0 => rfl
  | n + 1 => by rw [List.replicate_succ, List.flatten_cons, flatten_one a n]; rfl
theorem zerosK_cells {esz : Nat} {zs : List AV} {us : List Value} (h : Cells ρ zs us) (hl : us.length = esz) (n : Nat) : Cells ρ (zerosK esz n zs) ((List.replicate n us).flatten) := by
  unfold zerosK
  cases hb : Nat.beq esz 1 with
  | false => exact timesK_cells h n
  | true =>
    have hb := beq_true hb
    show Cells ρ (Option.rec (timesK n zs) (fun r => r) (theRun zs fun _ v => ifB (Nat.beq v 0) (some [.bytes n 0]) none)) _
    cases hr : (theRun zs fun _ v => ifB (Nat.beq v 0) (some [.bytes n 0]) none) with
    | none => exact timesK_cells h n
    | some r =>
      obtain ⟨l, v, rfl, h1⟩ := theRun_some hr
      obtain ⟨h2, h3⟩ := ifB_some h1
      have h2 := beq_true h2
      subst h2
      cases h3
      cases h with
      | bytes h' =>
        cases h'
        rw [List.append_nil] at hl ⊢
        rw [byteVals_length] at hl
        have : l = 1 := by omega
        subst this
        have e1 : byteVals 1 0 = [Value.int .u8 0] := rfl
        rw [e1, flatten_one]
        have := Cells.bytes (ρ := ρ) (l := n) (n := 0) .nil
        rwa [List.append_nil, byteVals_zero] at this
      | one o _ _ => exact Bool.noConfusion (show false = true from o)

theorem range_mod (zs : Array Value) (m : Nat) (hm : zs.size = m) : ∀ n, (List.range (n * m)).map (fun i => zs[i % zs.size]!) = (List.replicate n zs.toList).flatten
  | 0 => by simp
  | n + 1 => by
    have ih := range_mod zs m hm n
    rw [show (n + 1) * m = n * m + m by rw [Nat.add_mul]; omega, List.range_add, List.map_append, ih, List.replicate_succ', List.flatten_append]
    congr 1
    simp only [List.flatten_cons, List.flatten_nil, List.append_nil, List.map_map]
    apply List.ext_getElem
    · simp [hm]
    · intro i h1 h2
      have hi : i < m := by simpa using h1
      simp only [List.getElem_map, List.getElem_range, Function.comp, hm]
      have : (n * m + i) % m = i := by rw [Nat.mul_comm, Nat.mul_add_mod, Nat.mod_eq_of_lt hi]
      rw [this]
      have h3 : i < zs.size := by omega
      simp [h3]
theorem range_mod_array (zs : Array Value) (m n : Nat) (hm : zs.size = m) : (Array.range (n * m)).map (fun i => zs[i % zs.size]!) = ((List.replicate n zs.toList).flatten).toArray := by
  apply Array.toList_inj.1
  simp only [Array.toList_map, Array.toList_range]
  exact range_mod zs m hm n
theorem zeroCells_eq (zs : Array Value) (n : Nat) : Builtin.zeroCells zs n = ((List.replicate n zs.toList).flatten).toArray := range_mod_array zs zs.size n rfl

theorem fullZero_some {ty : TypeId} (h : fullZero P ty = true) {cs : List AV} (hz : zeroOf P ty = some cs) : ∃ i zv, P.info? ty = some i ∧ i.zero = some zv ∧ Cells ρ cs zv.cells.toList ∧ zv.cells.size = i.size ∧ sizeT P ty = i.size := by
  obtain ⟨i, zv, hi, hzv, hc⟩ := zeroOf_some (ρ := ρ) hz
  refine ⟨i, zv, hi, hzv, hc, ?_, ?_⟩
  · unfold fullZero at h
    rw [hi] at h
    simp only [Option.bind_some, hzv] at h
    have := beq_true h
    unfold sizeT at this
    rw [hi] at this
    simpa using this
  · unfold sizeT
    rw [hi]
    rfl

theorem run_askRoom (n : Nat) (w : World) : (askRoom n).run P w = .ok () w := by
  unfold askRoom mark
  split <;> rfl

theorem s_makeSlice {ty el : TypeId} {l k : Operand} {l' k' : AR} {zs : List AV} {bytes : Nat} (ho : o.op = .makeSlice ty l k) (hu : P.underlying ty = some (.slice el)) (hf : fullZero P el = true) (hz : zeroOf P el = some zs) (hb : (P.info? el).map (·.bytes) = some bytes)
    (hl : ofOperand l = some l') (hk : ofOperand k = some k') (h : kMakeSlice el (sizeT P el) bytes zs l' k' t S c = some z) :
    ∃ ob vf, (∀ S c, kMakeSlice el (sizeT P el) bytes zs l' k' t S c = newK S ob fun b S => c (vf b) S) ∧ ∀ ρ e w, EvRel ρ t e → OpMk P ρ e o w ob vf := by
  obtain ⟨kd, m, hvl, h1⟩ := onNat_some h
  obtain ⟨kd', n, hvk, h2⟩ := onNat_some (show onNat (ev k' t) _ = some z from h1)
  obtain ⟨c1, h3⟩ := ifB_some (show ifB (Nat.ble m n) _ none = some z from h2)
  obtain ⟨c2, h4⟩ := ifB_some h3
  obtain ⟨c3, h5⟩ := ifB_some h4
  refine ⟨.cells el (sizeT P el) (zerosK (sizeT P el) n zs), fun b => .sl b 0 m n false, fun S c => ?_, fun ρ e w he => ?_⟩
  · show onNat (ev l' t) _ = _
    rw [hvl, hvk]
    show ifB (Nat.ble m n) (ifB (Nat.ble (Nat.mul bytes n) 281474976710656) (ifB (Nat.ble n 4611686018427387904) _ none) none) none = _
    rw [c1, c2, c3]
    rfl
  · obtain ⟨i, zv, hi, hzv, hc, hs1, hs2⟩ := fullZero_some (ρ := ρ) hf hz
    have hbb : i.bytes = bytes := by rw [hi] at hb; simpa using hb
    have c1 := ble_true c1
    have c2 : bytes * n ≤ 281474976710656 := ble_true c2
    have c3 := ble_true c3
    have hdl := he l l' hl
    have hdk := he k k' hk
    rw [hvl] at hdl
    rw [hvk] at hdk
    generalize hel : e l = vl at hdl
    generalize hek : e k = vk at hdk
    cases hdl; cases hdk
    have hcells := zerosK_cells hc (esz := sizeT P el) (by rw [Array.length_toList, hs1, hs2]) n
    refine OpMk.cells (uf := fun r => .slice (some ⟨r, 0, none⟩) m n) hcells (fun ρ' b r hρ => Den.sl (cap := n) (op := false) hρ) ?_
    have w1 : IntKind.i64.wrap (m : Int) = m := wrap_small (k := .i64) (show m < 9223372036854775808 by omega)
    have w2 : IntKind.i64.wrap (n : Int) = n := wrap_small (k := .i64) (show n < 9223372036854775808 by omega)
    have hno : ¬ ((bytes : Int) * (n : Int) > 281474976710656) := by
      have : ((bytes * n : Nat) : Int) ≤ 281474976710656 := by omega
      rw [Int.natCast_mul] at this
      omega
    have hrm := range_mod_array zv.cells i.size n hs1
    simp only [execOp, ho, hel, hek, Instr.makeSlice]
    have e0 : ((n : Int) < 0) = False := by simp
    have e1 : ((m : Int) < 0) = False := by simp
    have e2 : ¬ ((n : Int) < (m : Int)) := by omega
    by_cases hn0 : n * i.size = 0
    · have hflat : ((List.replicate n zv.cells.toList).flatten).toArray = #[] := by rw [← hrm, hn0]; simp
      simp [run_underlying hu, asInt, asIntOf, typeInfo, hi, hbb, w1, w2, hno, e0, e1, e2, run_askRoom, sizeOf, hn0, newRow, hflat]
      exact congrArg (fun a => w.alloc (Obj.cells a el)) (Array.toList_inj.1 (by simp [Array.toList_range]))
    · simp [run_underlying hu, asInt, asIntOf, typeInfo, hi, hbb, w1, w2, hno, e0, e1, e2, run_askRoom, sizeOf, hn0, newRow, zeroValue, hzv, hrm]

theorem s_buildSlice {ty el : TypeId} {len : Nat} {ps : Array (Nat × Operand)} {l : List (Nat × Nat × AR)} {zs : List AV} (ho : o.op = .buildSlice ty len ps) (hu : P.underlying ty = some (.slice el)) (hf : fullZero P el = true) (hz : zeroOf P el = some zs) (h24 : len * sizeT P el ≤ 16777216) (hpos : 0 < len * sizeT P el)
    (hl : partsOf (fun i => some (i * sizeT P el, sizeT P el)) ps.toList = some l) (h : kBuildSlice el (sizeT P el) len zs l t S c = some z) :
    ∃ ob vf, (∀ S c, kBuildSlice el (sizeT P el) len zs l t S c = newK S ob fun b S => c (vf b) S) ∧ ∀ ρ e w, EvRel ρ t e → OpMk P ρ e o w ob vf := by
  obtain ⟨cs, hfill, h1⟩ := onSome_some h
  refine ⟨.cells el (sizeT P el) cs, fun b => .sl b 0 len len false, fun S c => ?_, fun ρ e w he => ?_⟩
  · show onSome (fillK (partsK l t) (zerosK (sizeT P el) len zs)) _ = _
    rw [hfill]
    rfl
  · obtain ⟨i, zv, hi, hzv, hc, hs1, hs2⟩ := fullZero_some (ρ := ρ) hf hz
    have hcells := zerosK_cells hc (esz := sizeT P el) (by rw [Array.length_toList, hs1, hs2]) len
    obtain ⟨cells', f1, f2⟩ := fill_rel he ps.toList l ((List.replicate len zv.cells.toList).flatten).toArray _ cs hl (by simpa using hcells) hfill
    have hrm := range_mod_array zv.cells i.size len hs1
    rw [hs2] at f1 h24 hpos
    have hrun := run_buildSlice (P := P) w ty el len (ps.map fun (i, x) => (i, e x)) cells' i zv hu hi hzv (by omega) (by omega) (by
      rw [hrm, ← f1]
      congr 1
      simp)
    refine OpMk.cells (us := cells'.toList) (uf := fun r => .slice (some ⟨r, 0, none⟩) len len) f2 (fun ρ' b r hρ => Den.sl (cap := len) (op := false) hρ) ?_
    simp [execOp, ho, hrun]
end Go.Proofs.YtpochibfjpanhaaGreat.Exe
