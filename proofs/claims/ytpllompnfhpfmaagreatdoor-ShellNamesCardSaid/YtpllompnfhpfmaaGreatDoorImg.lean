/- disk.Image: whatever a disk holds: its blocks, sorted by their numbers: the walk. -/
import Derived.Test.YtpllompnfhpfmaaGreatDoorSlq
import Derived.Maps.RangeRun
import Derived.Shelf.GgSortFunc.Tiny
import Derived.WalkKit
import Derived.Below
import Derived.OwnWalk
import Derived.Tactics
import Derived.KernelRfl
import Derived.RowKit
import Derived.Laws.ResultCell
import Derived.Laws.Rows
import Derived.WalkSpells
import Derived.LoopTactic
import Derived.IntWalk
import Derived.Deep.Cut
import Derived.Deep.MidRow
import Derived.Deep.DeepAppendWide
import Derived.Deep.QuietTactic
import Derived.Great.Walk
import Derived.Great.BuildSlice
import Derived.Outline
set_option linter.unusedVariables false
set_option linter.unusedSimpArgs false
namespace Go.Proofs.YtpllompnfhpfmaaGreatDoor.Img
open Go Go.Proofs Go.RowKit Go.Sort Go.Shelf Go.Lib
open Go.ChangeMaps (setBlock)
structure Aside (p : Prop) : Prop where mk :: (out : p)
theorem at_dst {P : Program} {o : Oper} {ops : Array Oper} {rest : List Oper} {a : Act} {w : World} {Q : Exit → Act → World → Prop} {N : Nat} (_ : o.dst = some N) (h : wpList P ops Q (o :: rest) a w) : wpList P ops Q (o :: rest) a w := h
theorem at_store {P : Program} {o : Oper} {ops : Array Oper} {rest : List Oper} {a : Act} {w : World} {Q : Exit → Act → World → Prop} {t : TypeId} {p : Tmp} {v : Operand} (_ : o.op = .store t (.tmp p) v) (h : wpList P ops Q (o :: rest) a w) : wpList P ops Q (o :: rest) a w := h
section
variable {P : Program} {ops : Array Oper} {rest : List Oper} {o : Oper} {a : Act} {w : World} {Q : Exit → Act → World → Prop}
/-- The next entry of a range, whichever. -/
theorem wpList_next_at (hg : o.guard = none) (it : Operand) (hop : o.op = .next it false) (r bm since c0 : Nat) (seen : Array Nat) (es : Array MapEntry) (clock : Nat) (hx : a.eval it = .pointer (some ⟨r, 0, none⟩))
    (hr : w.heap[r]? = some (.mapIter (some bm) since seen c0)) (hb : w.heap[bm]? = some (.map es clock)) (hold : ∀ x ∈ es.toList, x.born < since) (hsc : since ≤ c0)
    (h0 : (leftOf es seen).size = 0 → wpList P ops Q rest (a.put o.dst (.tuple #[.bool false])) w)
    (h1 : ∀ e ∈ (leftOf es seen).toList, ∀ w1, (w1 = w ∨ w1 = w.drew) → wpList P ops Q rest (a.put o.dst (.tuple #[.bool true, e.key, e.val])) (setBlock w1 r (.mapIter (some bm) since (seen.push e.born) clock))) : wpList P ops Q (o :: rest) a w := by
  rcases run_next_at (P := P) w o.type r bm since c0 seen es clock hr hb hold hsc with ⟨hz, hrun⟩ | ⟨e, he, w1, hw1, hrun⟩
  · refine Great.wpList_runTo hg _ rfl (.tuple #[.bool false]) w ?_ (h0 hz)
    simp [execOp, hop, hx, hrun]
  · refine Great.wpList_runTo hg _ rfl (.tuple #[.bool true, e.key, e.val]) _ ?_ (h1 e he w1 hw1)
    simp [execOp, hop, hx, hrun]
theorem wpList_entry_at (hg : o.guard = none) (it : Operand) (hop : o.op = .entry it) (r bm since : Nat) (seen : Array Nat) (es : Array MapEntry) (clock : Nat) (e : MapEntry) (hx : a.eval it = .pointer (some ⟨r, 0, none⟩))
    (hr : w.heap[r]? = some (.mapIter (some bm) since (seen.push e.born) clock)) (hb : w.heap[bm]? = some (.map es clock)) (he : e ∈ es.toList) (hn : (es.toList.map (·.born)).Nodup)
    (h : wpList P ops Q rest (a.put o.dst (.tuple #[e.key, e.val])) w) : wpList P ops Q (o :: rest) a w := by
  refine Great.wpList_runTo hg _ rfl (.tuple #[e.key, e.val]) w ?_ h
  simp [execOp, hop, hx, run_entry_at (P := P) w r bm since seen es clock e hr hb he hn]
end
/-- A block that is held: its number and its bytes. -/
structure Blk where
  at_ : Nat
  data : List Value
  len : data.length = 1024
  one : ∀ v ∈ data, v.oneCell' = true
instance : Inhabited Blk := ⟨⟨0, List.replicate 1024 (.int .u8 0), List.length_replicate, fun v hv => by rw [List.eq_of_mem_replicate hv]; rfl⟩⟩
def encB (b : Blk) : List Value := .int .i64 b.at_ :: b.data
theorem encB_len (b : Blk) : (encB b).length = 1025 := by unfold encB; rw [List.length_cons, b.len]
theorem encB_one (b : Blk) : ∀ v ∈ encB b, v.oneCell' = true := fun v hv => by
  rcases List.mem_cons.1 hv with rfl | hv
  · rfl
  · exact b.one v hv
def ltB (a b : Blk) : Bool := decide ((a.at_ : Int) < b.at_)
theorem swo_ltB : SWO ltB where
  irrefl := fun x => by simp [ltB]
  trans := fun x y z h1 h2 => by simp [ltB] at *; omega
  ntrans := fun x y z h1 h2 => by simp [ltB] at *; omega
set_option maxHeartbeats 2000000 in
/-- The closure: which of two comes first. -/
theorem less (blk off c Bs size : Nat) (v0 : Value) (W : World) (G : Nat → Int) (hs : W.cell? ⟨Bs, 1, none⟩ = some (.slice (some ⟨blk, off, none⟩) size c))
    (hc : ∀ t, t < size → W.cell? ⟨blk, off + t * 1025, none⟩ = some (.int .i64 (G t))) (i j : Nat) (hi : i < size) (hj : j < size) (_hsz : size < 4611686018427387904) :
    Calls Tryz.prog 115 #[.int .i64 i, .int .i64 j, .pointer (some ⟨Bs, 0, none⟩)] W fun e w' => e = .returned (.bool (decide (G i < G j))) ∧ ∃ q, w' = W.drewN q := by
  have ci := hc i hi
  have cj := hc j hj
  go_enter Tryz.func115, Tryz.ntmps115
  go_wp2
  go_quiet (fail)
  go_wp2
  go_ret
  exact ⟨rfl, nq, rfl⟩
theorem is_ok (w : World) (r : Nat) (n : Int) (hn : 0 < n) (hc : w.cell? ⟨r, 0, none⟩ = some (.int .i64 n)) : Calls Tryz.prog 79 #[.pointer (some ⟨r, 0, none⟩)] w fun e w' => e = .returned (.bool true) ∧ w' = w := by
  go_enter Tryz.func79, Tryz.ntmps79
  go_wp2
  go_ret
  exact ⟨rfl, rfl⟩
theorem wpList_range_at {P : Program} {ops : Array Oper} {rest : List Oper} {o : Oper} {a : Act} {w : World} {Q : Exit → Act → World → Prop} (hg : o.guard = none) (m : Operand) (t k e : TypeId) (hop : o.op = .range t m) (bm : Nat) (es : Array MapEntry) (clock : Nat) (hx : a.eval m = .map (some bm)) (ht : P.underlying t = some (.map k e))
    (hb : w.heap[bm]? = some (.map es clock)) (G : Nat) (hG : w.heap.size = G) (h : wpList P ops Q rest (a.put o.dst (.pointer (some ⟨G, 0, none⟩))) (w.alloc (.mapIter (some bm) clock #[] clock))) : wpList P ops Q (o :: rest) a w := by
  subst hG
  refine Great.wpList_runTo hg _ rfl (.pointer (some ⟨w.heap.size, 0, none⟩)) _ ?_ h
  simp [execOp, hop, hx, run_range_map w t k e bm es clock ht hb]
theorem cl {W : World} {o' : Obj} {p o : Nat} {v : Value} (h : W.cell? ⟨p, o, none⟩ = some v) : (W.alloc o').cell? ⟨p, o, none⟩ = some v := by
  rw [World.cell?_alloc_lt _ _ _ (World.block_lt_of_cell? _ _ h)]; exact h
theorem hl {W : World} {o' u : Obj} {p : Nat} (h : W.heap[p]? = some u) : (W.alloc o').heap[p]? = some u := by
  have : p < W.heap.size := (Array.getElem?_eq_some_iff.1 h).1
  rw [heap_alloc_old _ _ this]; exact h
/-- What a round of the loop finds: the entries that were seen, how many; the row so far. -/
structure Rel (w wr : World) (m clock : Nat) (n : Int) (es : Array MapEntry) (seen : Array Nat) (v : Value) (N : Nat) (xs : List Value) : Prop where
  below : Below w.heap.size w wr
  size : w.heap.size + 3 ≤ wr.heap.size
  res : wr.heap[w.heap.size]? = some (.cells #[.int .i64 0, .slice none 0 0] 112 (0, 0))
  im : wr.heap[w.heap.size + 1]? = some (.cells #[.int .i64 n, v] 112 (0, 0))
  iter : ∃ c0, wr.heap[w.heap.size + 2]? = some (.mapIter (some m) clock seen c0) ∧ clock ≤ c0
  row : wr.ownsRow (w.heap.size + 3) 144 1025 v N xs
theorem Rel.step {w wr w1 : World} {m clock N b : Nat} {n : Int} {es : Array MapEntry} {seen : Array Nat} {v : Value} {xs : List Value} (h : Rel w wr m clock n es seen v N xs) (h1 : w1 = wr ∨ w1 = wr.drew) :
    Rel w (setBlock w1 (w.heap.size + 2) (.mapIter (some m) clock (seen.push b) clock)) m clock n es (seen.push b) v N xs := by
  have hh : w1.heap = wr.heap := by rcases h1 with rfl | rfl <;> rfl
  have ho : ∀ k, k ≠ w.heap.size + 2 → (setBlock w1 (w.heap.size + 2) (.mapIter (some m) clock (seen.push b) clock)).heap[k]? = wr.heap[k]? := fun k hk => by
    show (w1.heap.setIfInBounds _ _)[k]? = _
    rw [Array.getElem?_setIfInBounds_ne (by omega), hh]
  have hs : (setBlock w1 (w.heap.size + 2) (.mapIter (some m) clock (seen.push b) clock)).heap.size = wr.heap.size := by show (w1.heap.setIfInBounds _ _).size = _; simp [hh]
  have hz := h.size
  refine ⟨⟨?_, ?_, ?_, by rw [hs]; exact h.below.size, fun k hk => by rw [ho k (by omega)]; exact h.below.block k hk⟩, by rw [hs]; exact h.size, by rw [ho _ (by omega)]; exact h.res, by rw [ho _ (by omega)]; exact h.im, ⟨clock, ?_, Nat.le_refl _⟩, ?_⟩
  · rcases h1 with rfl | rfl <;> exact h.below.os
  · rcases h1 with rfl | rfl <;> exact h.below.tape
  · rcases h1 with rfl | rfl <;> exact h.below.output
  · show (w1.heap.setIfInBounds _ _)[_]? = _
    rw [Array.getElem?_setIfInBounds_self_of_lt (by rw [hh]; omega)]
  · refine h.row.kept (row := some (w.heap.size + 2)) ⟨?_, ?_, ?_, by rw [hs]; exact Nat.le_refl _, fun k _ hk => ho k (fun e => hk (by rw [e]))⟩ ?_
    · rcases h1 with rfl | rfl <;> rfl
    · rcases h1 with rfl | rfl <;> rfl
    · rcases h1 with rfl | rfl <;> rfl
    · refine .inr fun e => ?_
      have := h.row.lt _ e
      omega
theorem step_iter {w wr w1 : World} {m clock N b : Nat} {n : Int} {es : Array MapEntry} {seen : Array Nat} {v : Value} {xs : List Value} (h : Rel w wr m clock n es seen v N xs) (h1 : w1 = wr ∨ w1 = wr.drew) :
    (setBlock w1 (w.heap.size + 2) (.mapIter (some m) clock (seen.push b) clock)).heap[w.heap.size + 2]? = some (.mapIter (some m) clock (seen.push b) clock) := by
  have hh : w1.heap = wr.heap := by rcases h1 with rfl | rfl <;> rfl
  have hz := h.size
  show (w1.heap.setIfInBounds _ _)[_]? = _
  rw [Array.getElem?_setIfInBounds_self_of_lt (by rw [hh]; omega)]
theorem step_size {w1 : World} {b : Nat} {o : Obj} : (setBlock w1 b o).heap.size = w1.heap.size := by show (w1.heap.setIfInBounds _ _).size = _; simp
theorem Rel.alloc {w wr : World} {m clock N : Nat} {n : Int} {es : Array MapEntry} {seen : Array Nat} {v : Value} {xs : List Value} (h : Rel w wr m clock n es seen v N xs) (o : Obj) : Rel w (wr.alloc o) m clock n es seen v N xs := by
  obtain ⟨c0, h1, h2⟩ := h.iter
  have := h.size
  have hs : (wr.alloc o).heap.size = wr.heap.size + 1 := by
    show (wr.heap.push o).size = _
    simp
  exact ⟨h.below.alloc h.below.size o, by omega, hl h.res, hl h.im, ⟨c0, hl h1, h2⟩, h.row.alloc o⟩
theorem Rel.grown {w wr W : World} {m clock N : Nat} {n : Int} {es : Array MapEntry} {seen : Array Nat} {v : Value} {xs : List Value} (h : Rel w wr m clock n es seen v N xs) (hg : wr.grownBy W none) : Rel w W m clock n es seen v N xs := by
  obtain ⟨c0, h1, h2⟩ := h.iter
  have hz := h.size
  have hb : ∀ k, k < wr.heap.size → W.heap[k]? = wr.heap[k]? := fun k hk => hg.block k hk (by simp)
  have hs := hg.size
  have hbel := h.below.size
  exact ⟨⟨hg.os.trans h.below.os, hg.tape.trans h.below.tape, hg.output.trans h.below.output, by omega, fun k hk => (hb k (by omega)).trans (h.below.block k hk)⟩, by omega, (hb _ (by omega)).trans h.res, (hb _ (by omega)).trans h.im, ⟨c0, (hb _ (by omega)).trans h1, h2⟩, h.row.kept hg (by
    cases v.ownBlock with
    | none => exact .inl rfl
    | some k => exact .inr (by simp))⟩
theorem setCells_kept (b : Nat) : ∀ (vs : List Value) (o : Nat) (w : World), (w.setCells b o vs).os = w.os ∧ (w.setCells b o vs).tape = w.tape ∧ (w.setCells b o vs).output = w.output ∧ (w.setCells b o vs).heap.size = w.heap.size ∧ ∀ k, k ≠ b → (w.setCells b o vs).heap[k]? = w.heap[k]?
  | [], o, w => ⟨rfl, rfl, rfl, rfl, fun _ _ => rfl⟩
  | v :: vs, o, w => by
    obtain ⟨h1, h2, h3, h4, h5⟩ := setCells_kept b vs (o + 1) (w.setCell ⟨b, o, none⟩ v)
    refine ⟨h1, h2, h3, h4.trans (by unfold World.setCell; simp), fun k hk => (h5 k hk).trans ?_⟩
    unfold World.setCell
    simp only [Array.getElem?_modify]
    rw [if_neg (fun e => hk e.symm)]
theorem new_block (W : World) (Z : Array Value) (t : TypeId) (vs : List Value) : W.grownBy ((W.alloc (.cells Z t)).setCells W.heap.size 0 vs) none := by
  obtain ⟨h1, h2, h3, h4, h5⟩ := setCells_kept W.heap.size vs 0 (W.alloc (.cells Z t))
  have hs : (W.alloc (.cells Z t)).heap.size = W.heap.size + 1 := by
    show (W.heap.push _).size = _
    simp
  exact ⟨h1, h2, h3, by omega, fun k hk _ => (h5 k (by omega)).trans (heap_alloc_old _ _ hk)⟩
theorem size84 : (Tryz.prog.info? 142).map (·.size) = some 1024 := by kernel_rfl
theorem zero84 : Tryz.zeroCells142.size = 1024 := by kernel_rfl
theorem there84 (W : World) (t : TypeId) : (W.alloc (.cells Tryz.zeroCells142 t)).there W.heap.size 0 1024 := fun j hj => by
  have e : (W.alloc (.cells Tryz.zeroCells142 t)).cell? ⟨W.heap.size, 0 + j, none⟩ = Tryz.zeroCells142[0 + j]? := World.cell?_alloc_mark W _ t (0, 0) _
  have hz := zero84
  refine ⟨?_, by simp [go_sem]⟩
  rw [e, Array.getElem?_eq_getElem (by omega)]
  rfl
theorem thereB (W : World) (b : Blk) : (W.alloc (.cells Tryz.zeroCells142 142)).there W.heap.size 0 b.data.toArray.size := by
  have e : b.data.toArray.size = 1024 := by simp [b.len]
  rw [e]
  exact there84 W 142
theorem sizeB (b : Blk) : (Tryz.prog.info? 142).map (·.size) = some b.data.toArray.size := by
  rw [List.size_toArray, b.len]
  exact size84
theorem sizeL (b : Blk) : (Tryz.prog.info? 142).map (·.size) = some b.data.length := by
  rw [b.len]
  exact size84
noncomputable def z140 : Value := ((Tryz.prog.info? 144).bind (·.zero)).getD (.int .i64 0)
theorem info140 : (Tryz.prog.info? 144).map (fun i => (i.zero, i.size, i.bytes)) = some (some z140, 1025, 1032) := by kernel_rfl
theorem z140_size : z140.cells.size = 1025 := by kernel_rfl
theorem info_parts {i : Option TypeInfo} {z : Value} {a b : Nat} (h : i.map (fun i => (i.zero, i.size, i.bytes)) = some (some z, a, b)) : ∃ ie, i = some ie ∧ ie.zero = some z ∧ ie.size = a ∧ ie.bytes = b := by
  cases i with
  | none => cases h
  | some ie =>
    injection h with h
    injection h with h1 h
    injection h with h2 h3
    exact ⟨ie, rfl, h1, h2, h3⟩
theorem built140 (parts : List (Nat × Value)) : Tryz.prog.built 144 parts = Instr.fill (fun i => (#[(0, 1), (1, 1024)] : Array (Nat × Nat))[i]?) z140.cells parts := by kernel_rfl
theorem fill140 (b : Blk) : Tryz.prog.built 144 [(0, .int .i64 b.at_), (1, .agg b.data.toArray)] = some (encB b).toArray := by
  rw [built140]
  have hz := z140_size
  generalize z140.cells = Z at hz
  have h0 : (#[(0, 1), (1, 1024)] : Array (Nat × Nat))[0]? = some (0, 1) := rfl
  have h1 : (#[(0, 1), (1, 1024)] : Array (Nat × Nat))[1]? = some (1, 1024) := rfl
  have c0 : (Value.int .i64 (b.at_ : Int)).cells = #[.int .i64 b.at_] := rfl
  have c1 : (Value.agg b.data.toArray).cells = b.data.toArray := rfl
  have l1 : b.data.toArray.size = 1024 := by simp [b.len]
  unfold Instr.fill
  simp only [h0, c0]
  rw [if_neg (by simp [hz])]
  unfold Instr.fill
  simp only [h1, c1]
  have s1 : ((#[Value.int .i64 (b.at_ : Int)] : Array Value).zipIdx.foldl (fun cs (x : Value × Nat) => cs.setIfInBounds (0 + x.2) x.1) Z) = Z.setIfInBounds 0 (.int .i64 b.at_) := rfl
  rw [s1, if_neg (by simp [hz, l1])]
  unfold Instr.fill
  congr 1
  obtain ⟨q1, q2⟩ := Great.foldl_set 1 b.data 0 (Z.setIfInBounds 0 (.int .i64 b.at_))
  have e : b.data.toArray.zipIdx.foldl (fun cs (x : Value × Nat) => cs.setIfInBounds (1 + x.2) x.1) (Z.setIfInBounds 0 (.int .i64 b.at_)) = (b.data.zipIdx 0).foldl (fun cs (x : Value × Nat) => cs.setIfInBounds (1 + x.2) x.1) (Z.setIfInBounds 0 (.int .i64 b.at_)) := by
    rw [← Array.foldl_toList]
    simp
  rw [e]
  refine Array.ext_getElem? fun k => ?_
  rw [q2 k]
  have len := b.len
  by_cases hk0 : k = 0
  · subst hk0
    rw [if_neg (by omega)]
    simp [encB, hz]
  · by_cases hk : k < 1025
    · rw [if_pos ⟨by omega, by omega, by simp [hz]; exact hk⟩]
      obtain ⟨j, rfl⟩ : ∃ j, k = j + 1 := ⟨k - 1, by omega⟩
      simp [encB]
    · rw [if_neg (by omega), Array.getElem?_eq_none (by simp [hz]; omega), Array.getElem?_eq_none (by simp [encB, len]; omega)]
theorem fillS (b : Blk) (Z : Array Value) (n : Nat) (hn : n = 1025) : Instr.fill (fun i => some (i * n, n)) ((Array.range (1 * n)).map (Z[· % Z.size]!)) [(0, .agg (encB b).toArray)] = some (encB b).toArray := by
  subst hn
  have h := Great.fill_whole (s := 1025) (by decide) [.agg (encB b).toArray] ((Array.range (1 * 1025)).map (Z[· % Z.size]!)) (fun v hv => by rw [List.mem_singleton.1 hv]; show (encB b).toArray.size = 1025; rw [List.size_toArray, encB_len]) (by simp)
  have e : ([Value.agg (encB b).toArray].flatMap fun v => v.cells.toList) = encB b := by
    show (encB b).toArray.toList ++ [] = encB b
    rw [List.append_nil]
  rw [e] at h
  exact h
theorem len_le : ∀ (l m : List Nat), l.Nodup → (∀ x ∈ l, x ∈ m) → l.length ≤ m.length
  | [], _, _, _ => Nat.zero_le _
  | x :: l, m, hd, hm => by
    have h := len_le l (m.erase x) (List.nodup_cons.1 hd).2 fun y hy => by
      refine (List.mem_erase_of_ne fun e => ?_).2 (hm y (List.mem_cons_of_mem _ hy))
      subst e
      exact (List.nodup_cons.1 hd).1 hy
    have hx := hm x List.mem_cons_self
    rw [List.length_erase_of_mem hx] at h
    have := List.length_pos_of_mem hx
    simp
    omega
theorem wpList_store_snd {P : Program} {ops : Array Oper} {rest : List Oper} {o : Oper} {a : Act} {w : World} {Q : Exit → Act → World → Prop} (hgd : o.guard = none) (ty : TypeId) (x y : Operand) (ho : o.op = .store ty x y)
    (g : Nat) (v : Value) (hx : a.eval x = .pointer (some ⟨g, 1, none⟩)) (hy : a.eval y = v) (h1 : v.oneCell' = true)
    (t : TypeId) (c0 c1 : Value) (hg : w.heap[g]? = some (.cells #[c0, c1] t (0, 0))) (hi : (P.info? ty).map (·.size) = some 1)
    (h : wpList P ops Q rest (a.put o.dst undef) (w.setRow g #[c0, v])) : wpList P ops Q (o :: rest) a w :=
  wpList_plain hgd fun _ hK => by
    have hs := run_storeCells_at P g 1 t [v] 0 #[c0, c1] w hg (by simp) (fun u hu => by rw [List.mem_singleton.1 hu]; exact h1)
    have hc : v.cells = #[v] := by cases v <;> first | rfl | cases h1
    have hr : (storeVar ty ⟨g, 1, none⟩ v).run P w = .ok () (w.setRow g #[c0, v]) := by
      cases hq : P.info? ty with
      | none => simp [hq] at hi
      | some i =>
        have hz : i.size = 1 := by simpa [hq] using hi
        simp at hs
        simp [storeVar, sizeOf, typeInfo, hq, hc, hz, hs]
    unfold Oper.wp execOp
    simp only [ho, hx, hy, Instr.storeAt, Instr.sureAddr, Sem.run_bind, Sem.run_pure, Result.andThen_ok, hr]
    exact hK _ _ h
theorem size78 : (Tryz.prog.info? 110).map (·.size) = some 1 := by kernel_rfl
theorem row_one {w : World} {base e size : Nat} {v : Value} {n : Nat} {xs : List Value} (h : w.ownsRow base e size v n xs) : v.oneCell' = true := by
  rcases h.2 with ⟨rfl, _⟩ | ⟨_, _, _, rfl, _⟩ <;> rfl
theorem Rel.stored {w W5 W6 : World} {m clock N N' : Nat} {n : Int} {es : Array MapEntry} {seen : Array Nat} {v v' : Value} {xs xs' : List Value} (h : Rel w W5 m clock n es seen v N xs) (hrow : W6.ownsRow (w.heap.size + 3) 144 1025 v' N' xs') (hgr : W5.grownBy W6 v.ownBlock) :
    Rel w (W6.setRow (w.heap.size + 1) #[.int .i64 n, v']) m clock n es seen v' N' xs' ∧ W6.heap[w.heap.size + 1]? = some (.cells #[.int .i64 n, v] 112 (0, 0)) := by
  obtain ⟨c0, h1, h2⟩ := h.iter
  have hz := h.size
  have hs := hgr.size
  have hbel := h.below.size
  have hb : ∀ k, k < w.heap.size + 3 → W6.heap[k]? = W5.heap[k]? := fun k hk => hgr.block k (by omega) fun e => by
    have := h.row.lt k e.symm
    omega
  have him := (hb _ (by omega)).trans h.im
  have ho : ∀ k, k ≠ w.heap.size + 1 → (W6.setRow (w.heap.size + 1) #[.int .i64 n, v']).heap[k]? = W6.heap[k]? := fun k hk => setRow_other W6 _ _ _ hk
  refine ⟨⟨⟨hgr.os.trans h.below.os, hgr.tape.trans h.below.tape, hgr.output.trans h.below.output, by rw [setRow_size]; omega, fun k hk => (ho k (by omega)).trans ((hb k (by omega)).trans (h.below.block k hk))⟩, by rw [setRow_size]; omega, (ho _ (by omega)).trans ((hb _ (by omega)).trans h.res), setRow_heap _ _ _ _ _ _ him, ⟨c0, (ho _ (by omega)).trans ((hb _ (by omega)).trans h1), h2⟩, ?_⟩, him⟩
  refine hrow.kept (row := some (w.heap.size + 1)) ⟨rfl, rfl, rfl, by rw [setRow_size]; exact Nat.le_refl _, fun k _ hk => ho k (fun e => hk (by rw [e]))⟩ (.inr fun e => ?_)
  have := hrow.lt _ e
  omega
theorem flat_eq (d : Array Blk) : flatK encB 1025 d = (d.toList.flatMap encB).toArray := by
  have hl : (d.toList.flatMap encB).length = d.size * 1025 := by
    rw [List.length_flatMap]
    have : d.toList.map (fun b => (encB b).length) = List.replicate d.size 1025 := by
      rw [List.eq_replicate_iff]
      refine ⟨by simp, fun x hx => ?_⟩
      obtain ⟨b, _, rfl⟩ := List.mem_map.1 hx
      exact encB_len b
    rw [this]
    simp
  refine ext_get! (by rw [size_flatK]; exact hl.symm) fun t ht => ?_
  rw [size_flatK] at ht
  rw [get_flatK _ _ _ _ ht]
  have h := Great.flat_get (s := 1025) (by decide) (d.toList.map fun b => Value.agg (encB b).toArray) (fun v hv => by
    obtain ⟨b, _, rfl⟩ := List.mem_map.1 hv
    show (encB b).toArray.size = 1025
    rw [List.size_toArray, encB_len]) t
  have e : ((d.toList.map fun b => Value.agg (encB b).toArray).flatMap fun v => v.cells.toList) = d.toList.flatMap encB := by
    rw [List.flatMap_map]
    rfl
  rw [e] at h
  have hq : t / 1025 < d.size := Nat.div_lt_of_lt_mul (by omega)
  have h2 : (d.toList.map fun b => Value.agg (encB b).toArray)[t / 1025]? = some (.agg (encB d[t / 1025]!).toArray) := by
    rw [List.getElem?_map, List.getElem?_eq_getElem (by simpa using hq), getElem!_pos d (t / 1025) hq]
    simp
  have hm : t % 1025 < 1025 := Nat.mod_lt _ (by decide)
  have hm' : t % 1025 < (encB d[t / 1025]!).length := by
    rw [encB_len]
    exact hm
  have hc : (Value.agg (encB d[t / 1025]!).toArray).cells[t % 1025]? = some (encB d[t / 1025]!)[t % 1025]! := by
    show (encB d[t / 1025]!).toArray[t % 1025]? = _
    rw [List.getElem?_toArray, List.getElem?_eq_getElem hm', getElem!_pos (encB d[t / 1025]!) (t % 1025) hm']
  rw [h2, Option.bind_some, hc] at h
  simp [Array.getElem!_eq_getD, Array.getD_eq_getD_getElem?, h]
theorem Rel.self {w wr : World} {m clock N : Nat} {n : Int} {es : Array MapEntry} {seen : Array Nat} {v : Value} {xs xs' : List Value} {W : World} (h : Rel w wr m clock n es seen v N xs) (hg : wr.grownBy W v.ownBlock) (hrow : W.ownsRow (w.heap.size + 3) 144 1025 v N xs') : Rel w W m clock n es seen v N xs' := by
  obtain ⟨c0, h1, h2⟩ := h.iter
  have hz := h.size
  have hs := hg.size
  have hbel := h.below.size
  have hb : ∀ k, k < w.heap.size + 3 → W.heap[k]? = wr.heap[k]? := fun k hk => hg.block k (by omega) fun e => by
    have := h.row.lt k e.symm
    omega
  exact ⟨⟨hg.os.trans h.below.os, hg.tape.trans h.below.tape, hg.output.trans h.below.output, by omega, fun k hk => (hb k (by omega)).trans (h.below.block k hk)⟩, by omega, (hb _ (by omega)).trans h.res, (hb _ (by omega)).trans h.im, ⟨c0, (hb _ (by omega)).trans h1, h2⟩, hrow⟩
noncomputable def T78 : TypeInfo := (Tryz.prog.info? 110).get (by kernel_rfl)
noncomputable def T140 : TypeInfo := (Tryz.prog.info? 144).get (by kernel_rfl)
theorem swK (n : Nat) (h2 : 2 ≤ n) : Lib.swapperK n T140 25 = 9 := by
  have a : T140.hasPointers = false := by kernel_rfl
  have b : T140.bytes = 1032 := by kernel_rfl
  have c : (n == 0) = false := by simp; omega
  have d : (n == 1) = false := by simp; omega
  simp [Lib.swapperK, a, b, c, d]
theorem sw0 : Tryz.prog.funcs.findIdx? (·.name == "internal/reflectlite" ++ ".Swapper$" ++ toString (Lib.swapperK 0 T140 25)) = some 284 := by kernel_rfl
theorem sw1 : Tryz.prog.funcs.findIdx? (·.name == "internal/reflectlite" ++ ".Swapper$" ++ toString (Lib.swapperK 1 T140 25)) = some 285 := by kernel_rfl
theorem grow_grown (w : World) (os : Array Obj) : w.grownBy (grow w os) none := ⟨rfl, rfl, rfl, by unfold grow; simp, fun k hk _ => by unfold grow; simp only []; rw [Array.getElem?_append_left hk]⟩
theorem ahead_grown (w : World) (q : Nat) : w.grownBy (Sort.ahead w q) none := ⟨rfl, rfl, rfl, Nat.le_refl _, fun _ _ _ => rfl⟩
/-- The row is sorted. -/
theorem slice_sorts {w wr : World} {m clock N : Nat} {n : Int} {es : Array MapEntry} {seen : Array Nat} {v : Value} {xs : List Value} (h : Rel w wr m clock n es seen v N xs) (L : Array Blk) (hL : xs = L.toList.flatMap encB) (hN : L.size = N) (hlt : N < 1048577) :
    Calls Tryz.prog 114 #[.iface 110 v, .func (.func 115) #[] #[.pointer (some ⟨w.heap.size + 1, 0, none⟩)]] wr fun e w' => e = .returned (.tuple #[]) ∧ ∃ L' : Array Blk, L'.toList.Perm L.toList ∧ (∀ i j, i < j → j < L'.size → ltB L'[j]! L'[i]! = false) ∧ Rel w w' m clock n es seen v N (L'.toList.flatMap encB) := by
  subst hN hL
  rcases Nat.lt_or_ge L.size 2 with h2 | h2
  · have htiny : ∀ (p : Option Addr) (c : Nat), Calls Tryz.prog 114 #[.iface 110 (.slice p L.size c), .func (.func 115) #[] #[.pointer (some ⟨w.heap.size + 1, 0, none⟩)]] wr fun e w' => e = .returned (.tuple #[]) ∧ ∃ os, w' = grow wr os := fun p c =>
      Any.sort_Slice_tiny Tryz.laysGg6 110 144 T78 T140 (by kernel_rfl) (by kernel_rfl) (by kernel_rfl) (by kernel_rfl) 25 (fun _ => by kernel_rfl) p L.size c (by omega) (if L.size = 0 then 284 else 285) (by
        have h01 : L.size = 0 ∨ L.size = 1 := by omega
        rcases h01 with e | e
        · rw [e]; exact sw0
        · rw [e]; exact sw1) (.func 115) #[] _ wr
    have hfin : ∀ (p : Option Addr) (c : Nat), v = .slice p L.size c → Calls Tryz.prog 114 #[.iface 110 v, .func (.func 115) #[] #[.pointer (some ⟨w.heap.size + 1, 0, none⟩)]] wr fun e w' => e = .returned (.tuple #[]) ∧ ∃ L' : Array Blk, L'.toList.Perm L.toList ∧ (∀ i j, i < j → j < L'.size → ltB L'[j]! L'[i]! = false) ∧ Rel w w' m clock n es seen v L.size (L'.toList.flatMap encB) := fun p c e => by
      subst e
      refine (htiny p c).mono ?_
      rintro e w' ⟨rfl, os, rfl⟩
      exact ⟨rfl, L, .refl _, fun i j h1 h3 => by omega, h.grown (grow_grown _ _)⟩
    rcases h.row.2 with ⟨rfl, hz⟩ | ⟨g, cap, cur, rfl, _⟩
    · exact hfin none 0 (by rw [hz])
    · exact hfin _ _ rfl
  · rcases h.row.2 with ⟨_, hz⟩ | ⟨g, cap, cur, rfl, hg1, hg2, hg3, hg4, hg5, hg6⟩
    · omega
    have hgl : g < wr.heap.size := (Array.getElem?_eq_some_iff.1 hg2).1
    have hxs : (L.toList.flatMap encB).length = L.size * 1025 := h.row.1
    have hH : HoldsK encB 1025 wr g 0 L := by
      intro t ht
      rw [size_flatK] at ht
      rw [flat_eq]
      have hmul : L.size * 1025 ≤ cap * 1025 := Nat.mul_le_mul_right _ hg3
      have e1 : cur[t]? = (L.toList.flatMap encB)[t]? := by rw [← hg6, List.getElem?_take, if_pos ht, Array.getElem?_toList]
      rw [Nat.zero_add]
      refine ⟨?_, by simp [World.frozen?, hg2]⟩
      rw [cell_of_row wr g t cur 144 (0, 0) hg2, e1, List.getElem?_eq_getElem (by rw [hxs]; exact ht)]
      simp [getElem!_pos, hxs, ht]
    have him : wr.cell? ⟨w.heap.size + 1, 1, none⟩ = some (.slice (some ⟨g, 0, none⟩) L.size cap) := by simp [World.cell?, h.im]
    have himl : w.heap.size + 1 < wr.heap.size := (Array.getElem?_eq_some_iff.1 h.im).1
    have hless : LessReadsK Tryz.prog 115 #[.pointer (some ⟨w.heap.size + 1, 0, none⟩)] encB 1025 ltB g 0 L.size wr := by
      intro q os dk hs i j hi hj
      have e : sortWorldK encB 1025 wr g 0 q dk os = putRowK encB 1025 (grow (Sort.ahead wr q) os) g 0 dk := by
        unfold sortWorldK; rw [putRowK_grow _ _ (Sort.ahead wr q) _ g 0 _ hgl]
      have hHg : HoldsK encB 1025 (grow (Sort.ahead wr q) os) g 0 L := holdsK_grow _ _ _ _ g 0 L hgl (holdsK_ahead _ _ _ _ _ _ _ hH)
      refine less g 0 cap (w.heap.size + 1) L.size undef _ (fun t => (dk[t]!.at_ : Int)) ?_ (fun t ht => ?_) i j hi hj (by omega)
      · rw [e, cell?_putRowK_other _ _ _ g 0 dk _ (by show w.heap.size + 1 ≠ g; omega), cell?_grow _ _ _ (by show w.heap.size + 1 < wr.heap.size; exact himl)]
        exact him
      · rw [e]
        have := ((holdsK_putRowK _ _ _ g 0 L dk hHg hs).cell (i := t) (c := 0) (by omega) (by omega)).1
        rw [Nat.add_zero] at this
        exact this
    have hS := Any.sort_Slice_cells_sorted Tryz.laysGg6 110 144 T78 T140 (by kernel_rfl) (by kernel_rfl) (by kernel_rfl) (by kernel_rfl) 25 (fun _ => by kernel_rfl) encB 1025 encB_len (by kernel_rfl) (fun _ => by kernel_rfl)
      encB_one ltB swo_ltB 115 _ (enters_of Tryz.func115 (by kernel_rfl) rfl) g 0 cap L h2 (by omega) 292 (by rw [swK _ h2]; kernel_rfl) false
      (fun args W => run_callFunc_extern Tryz.func292 (by kernel_rfl) (by kernel_rfl) (by kernel_rfl) (e := Extern.ReflectliteSwapper.swap false) (by kernel_rfl) args W) wr hless hH hgl
    change Calls Tryz.prog 114 _ _ _ at hS
    refine hS.mono ?_
    rintro e w' ⟨rfl, d', q, os, hP, hSo, rfl⟩
    obtain ⟨p1, _, p3⟩ := hP
    have hperm : d'.toList.Perm L.toList := by
      have e1 : d'.extract 0 L.size = d' := by rw [← p1]; simp
      have e2 : L.extract 0 L.size = L := by simp
      rw [e1, e2] at p3
      exact p3
    refine ⟨rfl, d', hperm, fun i j h1 h3 => hSo i j (Nat.zero_le _) h1 (by omega), ?_⟩
    have hgr : (Sort.ahead wr q).grownBy (putRowK encB 1025 (Sort.ahead wr q) g 0 d') (some g) := by
      refine ⟨rfl, rfl, rfl, by unfold putRowK; simp, fun k _ hk => ?_⟩
      unfold putRowK putRow mapBlock
      simp only [Array.getElem?_modify]
      rw [if_neg (fun e => hk (by rw [e]))]
    have hcell : (putRowK encB 1025 (Sort.ahead wr q) g 0 d').heap[g]? = some (.cells (putCells id 0 (flatK encB 1025 d') cur) 144 (0, 0)) := by
      unfold putRowK putRow mapBlock
      simp only [Array.getElem?_modify, if_true]
      show Option.map _ (wr.heap[g]?) = _
      rw [hg2]
      rfl
    have hsz' : (d'.toList.flatMap encB).length = L.size * 1025 := by
      have := congrArg Array.size (flat_eq d')
      rw [size_flatK, p1] at this
      simpa using this.symm
    have hrow' : (grow (putRowK encB 1025 (Sort.ahead wr q) g 0 d') os).ownsRow (w.heap.size + 3) 144 1025 (.slice (some ⟨g, 0, none⟩) L.size cap) L.size (d'.toList.flatMap encB) := by
      refine ⟨hsz', .inr ⟨g, cap, putCells id 0 (flatK encB 1025 d') cur, rfl, hg1, ?_, hg3, hg4, by unfold putCells; simp [hg5], ?_⟩⟩
      · rw [heap_grow_old _ _ (by unfold putRowK; simp; exact hgl)]
        exact hcell
      · refine List.ext_getElem? fun t => ?_
        have hmul : L.size * 1025 ≤ cap * 1025 := Nat.mul_le_mul_right _ hg3
        rw [List.getElem?_take]
        split
        · rename_i ht
          unfold putCells
          rw [Array.getElem?_toList, Array.getElem?_mapIdx, Array.getElem?_eq_getElem (by omega), Option.map_some, if_pos ⟨Nat.zero_le _, by rw [size_flatK, p1]; omega⟩, flat_eq, List.getElem?_eq_getElem (by rw [hsz']; exact ht)]
          simp [getElem!_pos, hsz', ht]
        · rename_i ht
          rw [List.getElem?_eq_none (by rw [hsz']; omega)]
    refine h.self ?_ hrow'
    have g1 := ((ahead_grown wr q).but (some g)).trans (hgr.trans ((grow_grown (putRowK encB 1025 (Sort.ahead wr q) g 0 d') os).but (some g)))
    exact g1
theorem perm_of {l m : List MapEntry} (hl : (l.map (·.born)).Nodup) (hm : (m.map (·.born)).Nodup) (h1 : ∀ x ∈ l, x ∈ m) (h2 : ∀ x ∈ m, x ∈ l) : l.Perm m := by
  induction l generalizing m with
  | nil =>
    cases m with
    | nil => exact .refl _
    | cons x m => cases h2 x List.mem_cons_self
  | cons x l ih =>
    obtain ⟨a, b, rfl⟩ := List.append_of_mem (h1 x List.mem_cons_self)
    rw [List.map_cons, List.nodup_cons] at hl
    have hm' : ((a ++ b).map (·.born)).Nodup ∧ x.born ∉ (a ++ b).map (·.born) := by
      have e : ((a ++ x :: b).map (·.born)).Perm (x.born :: (a ++ b).map (·.born)) := by
        have := (List.perm_middle (a := x) (l₁ := a) (l₂ := b)).map (·.born)
        simp
      have := e.nodup_iff.1 hm
      rw [List.nodup_cons] at this
      exact ⟨this.2, this.1⟩
    have hp := ih hl.2 hm'.1 (fun y hy => by
      have := h1 y (List.mem_cons_of_mem _ hy)
      rw [List.mem_append, List.mem_cons] at this
      rcases this with h | rfl | h
      · exact List.mem_append_left _ h
      · exact absurd (List.mem_map.2 ⟨_, hy, rfl⟩) hl.1
      · exact List.mem_append_right _ h) (fun y hy => by
      have hy' : y ∈ a ++ x :: b := by
        rcases List.mem_append.1 hy with h | h
        · exact List.mem_append_left _ h
        · exact List.mem_append_right _ (List.mem_cons_of_mem _ h)
      rcases List.mem_cons.1 (h2 y hy') with rfl | h
      · exact absurd (List.mem_map.2 ⟨_, hy, rfl⟩) hm'.2
      · exact h)
    exact (hp.cons x).trans List.perm_middle.symm
theorem results_cell {fn : Func} {p : Tmp} {ty : TypeId} (h : fn.results = #[.cell p ty]) (tmps : Array Value) (P : Program) (w : World) {b : Nat} {cs : List Value} {d : TypeDesc} (hp : tmps.getD p undef = .pointer (some ⟨b, 0, none⟩)) (hc : w.rangeAt b 0 cs) (hu : P.underlying ty = some d) (hd : d.isRow = true) (hi : (P.info? ty).map (·.size) = some cs.length) :
    (results fn tmps).run P w = .ok (.agg cs.toArray) w := by
  have ha : (asAddr (tmps.getD p undef)).run P w = .ok ⟨b, 0, none⟩ w := by rw [hp]; rfl
  rw [Array.getD_eq_getD_getElem?] at ha
  simp only [results, h]
  simp [Sem.run_bind, Result.andThen, ha, run_loadVar_mid w b 0 ty cs d hc hu hd hi]
theorem size222 : (Tryz.prog.info? 112).map (·.size) = some 2 := by kernel_rfl
/-- The result is laid. -/
theorem Rel.laid {w wr : World} {m clock N : Nat} {n : Int} {es : Array MapEntry} {seen : Array Nat} {v : Value} {xs : List Value} (h : Rel w wr m clock n es seen v N xs) :
    wr.there w.heap.size 0 2 ∧ (wr.setCells w.heap.size 0 [.int .i64 n, v]).cell? ⟨w.heap.size, 0, none⟩ = some (.int .i64 n) ∧ (wr.setCells w.heap.size 0 [.int .i64 n, v]).cell? ⟨w.heap.size, 1, none⟩ = some v ∧ RowKit.Below w.heap.size w (wr.setCells w.heap.size 0 [.int .i64 n, v]) ∧ (wr.setCells w.heap.size 0 [.int .i64 n, v]).ownsRow (w.heap.size + 3) 144 1025 v N xs := by
  have ht : wr.there w.heap.size 0 2 := fun j hj => by
    have h01 : j = 0 ∨ j = 1 := by omega
    refine ⟨?_, by simp [World.frozen?, h.res]⟩
    rcases h01 with rfl | rfl <;> simp [World.cell?, h.res]
  have hr := World.rangeAt_setCells_same wr w.heap.size 0 [.int .i64 n, v] ht
  obtain ⟨k1, k2, k3, k4, k5⟩ := setCells_kept w.heap.size [.int .i64 n, v] 0 wr
  have hbel := h.below.size
  refine ⟨ht, hr 0 _ rfl, hr 1 _ rfl, ⟨k1.trans h.below.os, k2.trans h.below.tape, k3.trans h.below.output, by omega, fun k hk => (k5 k (by omega)).trans (h.below.block k hk)⟩, ?_⟩
  refine h.row.kept (row := some w.heap.size) ⟨k1, k2, k3, by omega, fun k _ hk => k5 k (fun e => hk (by rw [e]))⟩ (.inr fun e => ?_)
  have := h.row.lt _ e
  omega
set_option maxHeartbeats 4000000 in
set_option maxRecDepth 100000 in
theorem image (w : World) (r m clock : Nat) (n : Int) (hn : 0 < n) (es : Array MapEntry) (hc0 : w.cell? ⟨r, 0, none⟩ = some (.int .i64 n)) (hc1 : w.cell? ⟨r, 1, none⟩ = some (.map (some m)))
    (hm : w.heap[m]? = some (.map es clock)) (hold : ∀ x ∈ es.toList, x.born < clock) (hnd : (es.toList.map (·.born)).Nodup) (B : MapEntry → Blk) (hB : ∀ e ∈ es.toList, e.key = .int .i64 (B e).at_ ∧ e.val = .agg (B e).data.toArray) (hsz : es.size < 1048576) :
    Calls Tryz.prog 67 #[.pointer (some ⟨r, 0, none⟩)] w fun e w' => ∃ v, e = .returned (.agg #[.int .i64 n, v]) ∧ RowKit.Below w.heap.size w w' ∧ ∃ L : Array Blk, L.toList.Perm (es.toList.map B) ∧ (∀ i j, i < j → j < L.size → ltB L[j]! L[i]! = false) ∧ w'.ownsRow (w.heap.size + 3) 144 1025 v L.size (L.toList.flatMap encB) := by
  have hml : m < w.heap.size := (Array.getElem?_eq_some_iff.1 hm).1
  have r0 : (w.alloc (.cells #[.int .i64 0, .slice none 0 0] 112)).cell? ⟨r, 0, none⟩ = some (.int .i64 n) := cl hc0
  have r1 : ((w.alloc (.cells #[.int .i64 0, .slice none 0 0] 112)).alloc (.cells #[.int .i64 n, .slice none 0 0] 112)).cell? ⟨r, 1, none⟩ = some (.map (some m)) := cl (cl hc1)
  have e0 := World.block_lt_of_cell? _ _ hc0
  go_enter Tryz.func67, Tryz.ntmps67
  go_wp2_with (first | (go_at_call 79; refine (is_ok _ r n hn (cl hc0)).mono ?_; rintro e w1 ⟨rfl, rfl⟩) | ((with_reducible refine at_dst (N := 19) rfl ?_); refine wpList_range_at rfl _ 137 _ _ rfl m es clock rfl Tryz.underlying137 (hl (hl hm)) (w.heap.size + 2) (by simp) ?_; (try simp only [Act.put, List.setIfInBounds_toArray, List.set_cons_zero, List.set_cons_succ])))
  go_loopw [4, 5] (fun v4 v5 w' => ∃ (vis : List MapEntry) (v : Value) (xs : List Value) (seen : Array Nat), Aside (Rel w w' m clock n es seen v vis.length xs) ∧ Aside (xs = vis.flatMap fun e => encB (B e)) ∧ Aside (seen.toList = vis.map (·.born)) ∧ Aside (∀ e ∈ vis, e ∈ es.toList) ∧ Aside (vis.map (·.born)).Nodup) (fun _ _ w' => (leftOf es (w'.iterSeen (w.heap.size + 2))).size)
  case atStart =>
    have hs2 : ((w.alloc (.cells #[.int .i64 0, .slice none 0 0] 112)).alloc (.cells #[.int .i64 n, .slice none 0 0] 112)).heap.size = w.heap.size + 2 := by simp
    have hs1 : (w.alloc (.cells #[.int .i64 0, .slice none 0 0] 112)).heap.size = w.heap.size + 1 := by simp
    refine ⟨[], .slice none 0 0, [], #[], ⟨⟨((Below.refl _ _).alloc (Nat.le_refl _) _).alloc (by simp) _ |>.alloc (by simp; omega) _, by simp, hl (hl (heap_alloc_new _ _)), hl ?_, ⟨clock, ?_, Nat.le_refl _⟩, World.ownsRow_nil _ _ _ _⟩⟩, ⟨rfl⟩, ⟨rfl⟩, ⟨fun _ h => by cases h⟩, ⟨List.nodup_nil⟩⟩
    · have := heap_alloc_new (w.alloc (.cells #[.int .i64 0, .slice none 0 0] 112)) (.cells #[.int .i64 n, .slice none 0 0] 112)
      rw [hs1] at this
      exact this
    · have := heap_alloc_new ((w.alloc (.cells #[.int .i64 0, .slice none 0 0] 112)).alloc (.cells #[.int .i64 n, .slice none 0 0] 112)) (.mapIter (some m) clock #[] clock)
      rw [hs2] at this
      exact this
  case round =>
    obtain ⟨vis, v, xs, seen, HR, HX, HS, HM, HD⟩ := hrel
    obtain ⟨c0, hit, hcc⟩ := HR.out.iter
    have hmm : wr.heap[m]? = some (.map es clock) := (HR.out.below.block m hml).trans hm
    have hlen : vis.length ≤ es.size := by
      have := len_le _ (es.toList.map (·.born)) HD.out (fun x hx => by
        obtain ⟨e, he, rfl⟩ := List.mem_map.1 hx
        exact List.mem_map.2 ⟨e, HM.out e he, rfl⟩)
      simpa using this
    have im1 : wr.cell? ⟨w.heap.size + 1, 1, none⟩ = some v := by simp [World.cell?, HR.out.im]
    go_wp2_with (first | (go_at_call 114; refine (slice_sorts HR.out (vis.map B).toArray (by rw [HX.out, List.flatMap_map]) (by simp) (by omega)).mono ?_; rintro e w8 ⟨rfl, L, hL1, hL2, HR8⟩; have im8 : w8.cell? ⟨w.heap.size + 1, 0, none⟩ = some (.int .i64 n) := (by simp [World.cell?, HR8.im]); have im9 : w8.cell? ⟨w.heap.size + 1, 1, none⟩ = some v := (by simp [World.cell?, HR8.im]); obtain ⟨th8, rs8, rs9, bel8, row8⟩ := HR8.laid; clear im1) | ((with_reducible refine at_store (t := 112) (p := 2) (v := .tmp 38) rfl ?_); refine wpList_store_mid rfl 112 (.tmp 2) (.tmp 38) rfl w.heap.size 0 #[.int .i64 n, v] rfl rfl th8 size222 (by simp [row_one HR8.row]; rfl) ?_; change wpList _ _ _ _ _ (w8.setCells w.heap.size 0 [.int .i64 n, v]); generalize w8.setCells w.heap.size 0 [.int .i64 n, v] = W9 at rs8 rs9 bel8 row8 ⊢; simp only [Act.put]) | ((with_reducible refine at_dst (N := 20) rfl ?_); refine wpList_next_at rfl (.tmp 19) rfl (w.heap.size + 2) m clock c0 seen es clock (by simp [Act.eval]) hit hmm hold hcc (fun hz => ?_) (fun e he w1 hw1 => ?_)) | ((with_reducible refine at_dst (N := 22) rfl ?_); obtain ⟨hes, hns⟩ := mem_left he; have HR2 := Aside.mk (HR.out.step (b := e.born) hw1); have hit2 := step_iter (b := e.born) HR.out hw1; have hm2 := (HR2.out.below.block m hml).trans hm; generalize setBlock w1 (w.heap.size + 2) (.mapIter (some m) clock (seen.push e.born) clock) = W2 at HR2 hit2 hm2 ⊢; refine wpList_entry_at rfl (.tmp 19) rfl (w.heap.size + 2) m clock seen es clock e (by simp [Act.eval]) hit2 hm2 hes hnd ?_; rw [(hB e hes).1, (hB e hes).2]) | ((with_reducible refine at_store (t := 142) (p := 5) (v := .tmp 24) rfl ?_); refine wpList_store_mid rfl 142 (.tmp 5) (.tmp 24) rfl W2.heap.size 0 (B e).data.toArray rfl rfl (thereB W2 (B e)) (sizeB (B e)) (all_oneCell_toArray (B e).one) ?_; have hra : ((W2.alloc (.cells Tryz.zeroCells142 142)).setCells W2.heap.size 0 (B e).data).rangeAt W2.heap.size 0 (B e).data := World.rangeAt_setCells_same _ _ _ _ (by rw [(B e).len]; exact there84 W2 142); have HR4 := Aside.mk (HR2.out.grown (new_block W2 Tryz.zeroCells142 142 (B e).data)); change wpList _ _ _ _ _ ((W2.alloc (.cells Tryz.zeroCells142 142)).setCells W2.heap.size 0 (B e).data); generalize (W2.alloc (.cells Tryz.zeroCells142 142)).setCells W2.heap.size 0 (B e).data = W4 at hra HR4 ⊢; have im4 : W4.cell? ⟨w.heap.size + 1, 1, none⟩ = some v := (by simp [World.cell?, HR4.out.im]); simp only [Act.put]) | ((with_reducible refine at_dst (N := 28) rfl ?_); refine wpList_load_mid rfl 142 _ rfl W2.heap.size 0 ?hx (B e).data _ hra Tryz.underlying142 rfl (sizeL (B e)) ?_; (case hx => rfl); (try simp only [Act.put, List.setIfInBounds_toArray, List.set_cons_zero, List.set_cons_succ])) | ((with_reducible refine at_dst (N := 29) rfl ?_); refine wpList_buildTo rfl 144 _ rfl _ rfl (encB (B e)).toArray (by simp only [List.map_toArray, List.map_cons, List.map_nil]; exact fill140 (B e)) ?_; (try simp only [Act.put, List.setIfInBounds_toArray, List.set_cons_zero, List.set_cons_succ])) | ((with_reducible refine at_dst (N := 30) rfl ?_); obtain ⟨ie, hi1, hi2, hi3, hi4⟩ := info_parts info140; refine wpList_buildSlice rfl 110 144 1 _ rfl (encB (B e)).toArray ie z140 Tryz.underlying110 hi1 hi2 (by rw [hi3]; decide) (by rw [hi3]; decide) (by simp only [List.map_toArray, List.map_cons, List.map_nil]; exact fillS (B e) _ _ hi3) ?_; (try simp only [Act.put, List.setIfInBounds_toArray, List.set_cons_zero, List.set_cons_succ]); have HR5 := Aside.mk (HR4.out.alloc (.cells (encB (B e)).toArray 144 (0, 0))); have hne : ∀ j u, (encB (B e))[j]? = some u → (W4.alloc (.cells (encB (B e)).toArray 144 (0, 0))).cell? ((⟨W4.heap.size, 0, none⟩ : Addr).add j) = some u := (fun j u hj => by rw [Addr.add_mid, Nat.zero_add]; exact (World.cell?_alloc_mark W4 _ 144 (0, 0) j).trans (by simpa using hj)); generalize W4.alloc (.cells (encB (B e)).toArray 144 (0, 0)) = W5 at HR5 hne ⊢; generalize W4.heap.size = G at hne ⊢) | ((with_reducible refine at_dst (N := 31) rfl ?_); obtain ⟨ie, hi1, hi2, hi3, hi4⟩ := info_parts info140; refine wpList_append_own_wide W5 rfl (.tmp 26) (.tmp 30) 110 rfl (w.heap.size + 3) 144 ie z140 1025 1032 Tryz.underlying110 hi1 hi2 hi3 hi4 z140_size (by decide) v vis.length xs rfl HR5.out.row ⟨G, 0, none⟩ 1 1 (encB (B e)) rfl (by rw [encB_len]) hne (encB_one (B e)) (by unfold maxLen; omega) (by omega) HR5.out.size (fun v' W6 hrow hgr _ => ?_); (try simp only [Act.put, List.setIfInBounds_toArray, List.set_cons_zero, List.set_cons_succ])) | ((with_reducible refine at_store (t := 110) (p := 32) (v := .tmp 31) rfl ?_); have HR7 := Aside.mk (HR5.out.stored hrow hgr).1; refine wpList_store_snd rfl 110 (.tmp 32) (.tmp 31) rfl (w.heap.size + 1) v' rfl rfl (row_one hrow) 112 (.int .i64 n) v (HR5.out.stored hrow hgr).2 size78 ?_; generalize W6.setRow (w.heap.size + 1) #[.int .i64 n, v'] = W7 at HR7 ⊢; simp only [Act.put]))
    · refine bodyPost_ret (results_cell (b := w.heap.size) (cs := [.int .i64 n, v]) (ty := 112) (p := 2) rfl _ _ _ rfl (fun j u hj => ?_) Tryz.underlying112 rfl size222) rfl ?_
      · match j, hj with
        | 0, hj => cases hj; exact rs8
        | 1, hj => cases hj; exact rs9
      have hperm : vis.Perm es.toList := perm_of (HD.out) hnd HM.out fun x hx => by
        have := all_seen es seen hz x hx
        rw [Array.contains_eq_mem, decide_eq_true_eq, ← Array.mem_toList_iff, HS.out] at this
        obtain ⟨y, hy, he⟩ := List.mem_map.1 this
        rw [← born_inj hnd (HM.out y hy) hx he]
        exact hy
      have hsz8 : L.size = vis.length := by
        have := hL1.length_eq
        simpa using this
      rw [← hsz8] at row8
      exact ⟨v, rfl, bel8, L, hL1.trans (by simpa using hperm.map B), hL2, row8⟩
    · have hit7 : W7.iterSeen (w.heap.size + 2) = seen.push e.born := by
        obtain ⟨c7, h7, _⟩ := HR7.out.iter
        simp [World.iterSeen, h7]
      have hit0 : wr.iterSeen (w.heap.size + 2) = seen := by simp [World.iterSeen, hit]
      go_roundw
      case rel =>
        refine ⟨vis ++ [e], v', xs ++ encB (B e), seen.push e.born, ⟨by rw [List.length_append]; exact HR7.out⟩, ⟨by rw [HX.out]; simp⟩, ⟨by simp [HS.out]⟩, ⟨fun x hx => ?_⟩, ⟨?_⟩⟩
        · rcases List.mem_append.1 hx with hx | hx
          · exact HM.out x hx
          · rw [List.mem_singleton.1 hx]; exact hes
        · rw [List.map_append, List.nodup_append]
          refine ⟨HD.out, by simp, fun a ha b hb => ?_⟩
          have hb : b = e.born := by simpa using hb
          subst hb
          intro e1
          subst e1
          rw [Array.contains_eq_mem, decide_eq_false_iff_not, ← Array.mem_toList_iff, HS.out] at hns
          exact hns ha
      case measure =>
        rw [hit7, hit0]
        exact left_shrinks es seen e he
end Go.Proofs.YtpllompnfhpfmaaGreatDoor.Img
