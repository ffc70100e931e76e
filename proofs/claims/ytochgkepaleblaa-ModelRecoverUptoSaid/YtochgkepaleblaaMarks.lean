/- The marks of entries and of blocks. -/
import Derived.Test.YtochgkepaleblaaRowz
import Derived.Test.YtochgkepaleblaaHeld
import Derived.Test.YtochgkepaleblaaRecx1
import Derived.Test.YtochgkepaleblaaHeld2
import Derived.Deep.WholeRow
import Derived.Great.Walk
set_option linter.unusedVariables false
set_option linter.unusedSimpArgs false
namespace Go.Proofs.Ytochgkepaleblaa.Marks
open Go.RowKit Go.Proofs.YtochgkepaleblaaW.PrintWords Go.Proofs.YtochgkepaleblaaW.PrintLast Go.Proofs.YtochgkepaleblaaW.PrintMore
open Go.Proofs.Ytochgkepaleblaa.Rowz Go.Proofs.Ytochgkepaleblaa.Held Go.Proofs.Ytochgkepaleblaa.Rec

def tx : ByteArray := ⟨#[109, 97, 114, 107]⟩
def e66 (a b : Int) : S66 := ⟨IntKind.u16.wrap (60000 + 100 * a + b), tx⟩
def enc66 (x : S66) : List Value := [.int .u16 x.f0, .string x.f1]
def K66 : EK S66 where
  E := 66
  H := 52
  sz := 2
  enc := enc66
  len := fun _ => rfl
  one := fun x u hu => by
    simp only [enc66, List.mem_cons, List.not_mem_nil, or_false] at hu
    rcases hu with rfl | rfl <;> rfl
  pos := by decide
  ne := by decide
  mrk := fun _ k i => e66 ((k : Int) + 10) (i : Int)
def b63 (a b : Int) : B63 := ⟨-1000 * a - b - 7, List.replicate 1024 0, List.length_replicate⟩
def K63 : EK B63 where
  E := 63
  H := 51
  sz := 1025
  enc := enc63
  len := enc63_len
  one := enc63_one
  pos := Nat.succ_pos 1024
  ne := by decide
  mrk := fun _ k i => b63 ((k : Int) + 10) (i : Int)

set_option maxHeartbeats 1000000 in
theorem markEntries.calls (a b : Int) (w : World) (ha : 0 ≤ a ∧ a ≤ 100000000) (hb : 0 ≤ b ∧ b ≤ 100000000) :
    Calls Try.prog 46 #[.int .i64 a, .int .i64 b] w fun e w' => e = .returned (.agg #[.int .u16 (e66 a b).f0, .string (e66 a b).f1]) ∧ Below w.heap.size w w' := by
  obtain ⟨a0, a1⟩ := ha
  obtain ⟨b0, b1⟩ := hb
  go_enter Try.func46, Try.ntmps46
  go_wp2
  exact bodyPost_ret (v := .agg #[.int .u16 (e66 a b).f0, .string (e66 a b).f1]) (by simp [results, Try.results46, go_sem, e66, tx]) rfl ⟨rfl, (Below.refl _ _).alloc (Nat.le_refl _) _⟩

theorem z63 : (Try.prog.info? 63).map (fun i => (i.zero, i.size)) = some (some (.agg (enc63 zB63).toArray), 1025) := by kernel_rfl
theorem zc63 : ∃ Z : Array Value, Held.Keep (Z = (enc63 zB63).toArray) ∧ (∀ w, (zeroValue 63).run Try.prog w = .ok (.agg Z) w) := ⟨_, ⟨rfl⟩, (zero_of_info z63).1⟩
theorem set63 (n : Int) : (enc63 zB63).toArray.setIfInBounds 0 (.int .i64 n) = (enc63 ⟨n, List.replicate 1024 0, List.length_replicate⟩).toArray := by
  rw [List.setIfInBounds_toArray]
  rfl
section
variable {P : Program} {ops : Array Oper} {rest : List Oper} {o : Oper} {a : Act} {Q : Exit → Act → World → Prop} {w : World}
theorem gate_store (ty : TypeId) (x y : Operand) (ho : o.op = .store ty x y) (h : wpList P ops Q (o :: rest) a w) : wpList P ops Q (o :: rest) a w := h
theorem wpList_store_new (hgd : o.guard = none) (ty : TypeId) (x y : Operand) (ho : o.op = .store ty x y) (c c' : Array Value) (W : World) (hw : w = W.alloc (.cells c ty)) (hx : a.eval x = .pointer (some ⟨W.heap.size, 0, none⟩)) (hy : a.eval y = .agg c')
    (hi : (P.info? ty).map (·.size) = some c'.size) (hold : c.size = c'.size) (h1 : c'.all (·.oneCell') = true) (h : wpList P ops Q rest (a.put o.dst undef) (W.alloc (.cells c' ty))) : wpList P ops Q (o :: rest) a w := by
  subst hw
  refine wpList_store_row hgd ty x y ho W.heap.size c' hx hy ty c (heap_alloc_last W _) hi hold h1 ?_
  rw [World.setRow_alloc_new]
  exact h
end
theorem all63 (x : B63) : (enc63 x).toArray.all (·.oneCell') = true := all_oneCell_toArray (enc63_one x)
theorem res63 {tmps : Array Value} {fn : Func} (hf : fn.results = #[.cell 4 63]) {W : World} {x : B63} (ht : tmps.getD 4 undef = .pointer (some ⟨W.heap.size, 0, none⟩)) :
    (results fn tmps).run Try.prog (W.alloc (.cells (enc63 x).toArray 63)) = .ok (.agg (enc63 x).toArray) (W.alloc (.cells (enc63 x).toArray 63)) := by
  have h := run_loadVar_mid (P := Try.prog) (W.alloc (.cells (enc63 x).toArray 63)) W.heap.size 0 63 (enc63 x) _ (fun j v hv => by
    rw [cell_of_row _ _ _ _ _ _ (heap_alloc_last W _)]
    simpa using hv) Try.underlying63 rfl (by rw [enc63_len]; exact size63)
  simp only [results, hf]
  rw [Array.getD_eq_getD_getElem?] at ht
  simp [ht, asAddr, h]
set_option maxHeartbeats 1000000 in
theorem markHelds.calls (a b : Int) (w : World) (ha : 0 ≤ a ∧ a ≤ 100000000) (hb : 0 ≤ b ∧ b ≤ 100000000) :
    Calls Try.prog 47 #[.int .i64 a, .int .i64 b] w fun e w' => e = .returned (.agg (enc63 (b63 a b)).toArray) ∧ Below w.heap.size w w' := by
  obtain ⟨a0, a1⟩ := ha
  obtain ⟨b0, b1⟩ := hb
  obtain ⟨Z, hZ, hz⟩ := zc63
  have hx : Held.Keep (Z.setIfInBounds 0 (.int .i64 (-1000 * a - b - 7)) = (enc63 (b63 a b)).toArray ∧ Z.size = 1025) := ⟨by rw [hZ.out, set63]; rfl, by rw [hZ.out, List.size_toArray, enc63_len]⟩
  have hsz : Z.size = 1025 := hx.out.2
  have hne : ¬ Z = #[] := fun e => by rw [e] at hsz; exact absurd hsz (by decide)
  clear hZ
  go_enter Try.func47, Try.ntmps47
  go_wp2_with ((with_reducible refine gate_store 63 (.tmp 4) (.tmp 10) rfl ?_); refine wpList_store_new rfl 63 (.tmp 4) (.tmp 10) rfl Z (enc63 (b63 a b)).toArray w rfl rfl (congrArg Value.agg hx.out.1) ?h1 ?h2 (all63 _) ?_; (case h1 => rw [List.size_toArray, enc63_len]; exact size63); (case h2 => rw [hx.out.2, List.size_toArray, enc63_len]))
  exact bodyPost_ret (v := .agg (enc63 (b63 a b)).toArray) (res63 Try.results47 (by rfl)) rfl ⟨rfl, (Below.refl _ _).alloc (Nat.le_refl _) _⟩
theorem mark66 (ln k i : Nat) (w : World) (hk : k ≤ 10000000) (hi : i ≤ 10000006) :
    Calls Try.prog 46 #[.int .i64 ((k : Int) + 10), .int .i64 (i : Int)] w fun e w' => e = .returned (.agg (K66.enc (K66.mrk ln k i)).toArray) ∧ Below w.heap.size w w' :=
  markEntries.calls _ _ w (by omega) (by omega)
theorem mark63 (ln k i : Nat) (w : World) (hk : k ≤ 10000000) (hi : i ≤ 10000006) :
    Calls Try.prog 47 #[.int .i64 ((k : Int) + 10), .int .i64 (i : Int)] w fun e w' => e = .returned (.agg (K63.enc (K63.mrk ln k i)).toArray) ∧ Below w.heap.size w w' :=
  markHelds.calls _ _ w (by omega) (by omega)
theorem mark66' (ln k l p : Nat) (w : World) (hk : k ≤ 10000000) (hi : l ≤ 10000000) (hp : p ≤ 6) :
    Calls Try.prog 46 #[.int .i64 ((k : Int) + 10), .int .i64 ((l : Int) + (p : Int))] w fun e w' => e = .returned (.agg (K66.enc (K66.mrk ln k (l + p))).toArray) ∧ Below w.heap.size w w' := by
  rw [← Int.natCast_add]
  exact mark66 ln k (l + p) w hk (by omega)
theorem mark63' (ln k l p : Nat) (w : World) (hk : k ≤ 10000000) (hi : l ≤ 10000000) (hp : p ≤ 6) :
    Calls Try.prog 47 #[.int .i64 ((k : Int) + 10), .int .i64 ((l : Int) + (p : Int))] w fun e w' => e = .returned (.agg (K63.enc (K63.mrk ln k (l + p))).toArray) ∧ Below w.heap.size w w' := by
  rw [← Int.natCast_add]
  exact mark63 ln k (l + p) w hk (by omega)
theorem fillK {α : Type} (K : EK α) (x : α) (z : Array Value) {n : Nat} (hn : n = K.sz) : Instr.fill (fun i => some (i * n, n)) ((Array.range (1 * n)).map (z[· % z.size]!)) [(0, .agg (K.enc x).toArray)] = some (K.enc x).toArray := by
  subst hn
  have h := Great.fill_whole (s := K.sz) K.pos [.agg (K.enc x).toArray] ((Array.range (1 * K.sz)).map (z[· % z.size]!)) (fun v hv => by rw [List.mem_singleton.1 hv]; show (K.enc x).toArray.size = K.sz; rw [List.size_toArray, K.len]) (by rw [Array.size_map, Array.size_range, List.length_singleton])
  have e : ([Value.agg (K.enc x).toArray].flatMap fun v => v.cells.toList) = K.enc x := by
    show (K.enc x).toArray.toList ++ [] = K.enc x
    rw [List.append_nil]
  rw [e] at h
  exact h
theorem size66 : (Try.prog.info? 66).map (·.size) = some 2 := by kernel_rfl
theorem info66x : ∃ z : Value, (Try.prog.info? 66).map (fun i => (i.zero, i.size, i.bytes)) = some (some z, 2, 24) ∧ z.cells.size = 2 := ⟨_, info66, rfl⟩
theorem neq66 {o : Oper} {a : Act} {p q : Operand} {x : S66} (ho : o.op = .binOp .neq 66 p q 66) (hp : a.eval p = .agg (enc66 x).toArray) (hq : a.eval q = .agg (enc66 x).toArray) (w : World) : (execOp a.eval o).run Try.prog w = .ok (.value (.bool false)) w := by
  have h := eqA66 9998 w x.f0 x.f0 x.f1 x.f1
  have e : (x.f0 == x.f0 && (x.f1.toList == x.f1.toList)) = true := by simp
  rw [e] at h
  have h' : (Op.equalIn 10000 66 (.agg (enc66 x).toArray) (.agg (enc66 x).toArray)).run Try.prog w = .ok true w := h
  have hn : (binOp .neq 66 (.agg (enc66 x).toArray) (.agg (enc66 x).toArray)).run Try.prog w = .ok (.bool false) w := by
    rw [run_neq_struct, h']
    rfl
  unfold execOp
  simp only [ho, hp, hq, Sem.run_bind, run_eqGuard_agg (P := Try.prog) w .neq 66 p q _ _ (by kernel_rfl), Result.andThen_ok, hn]
  rfl
theorem neq63s {o : Oper} {a : Act} {p q : Operand} {x : B63} (ho : o.op = .binOp .neq 63 p q 63) (hp : a.eval p = .agg (enc63 x).toArray) (hq : a.eval q = .agg (enc63 x).toArray) (w : World) : (execOp a.eval o).run Try.prog w = .ok (.value (.bool false)) w := by
  have h := neqOp63 ho hp hq w
  rw [decide_eq_true rfl] at h
  exact h
theorem info52 : (Try.prog.info? 52).map (fun i => (i.zero, i.size, i.bytes)) = some (some (.slice none 0 0), 1, 24) := by kernel_rfl
theorem info51 : (Try.prog.info? 51).map (fun i => (i.zero, i.size, i.bytes)) = some (some (.slice none 0 0), 1, 24) := by kernel_rfl
theorem info22 : (Try.prog.info? 22).map (fun i => (i.zero, i.size, i.bytes)) = some (some (.slice none 0 0), 1, 24) := by kernel_rfl
end Go.Proofs.Ytochgkepaleblaa.Marks
