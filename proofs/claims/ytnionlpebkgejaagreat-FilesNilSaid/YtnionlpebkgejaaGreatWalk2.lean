/- What the law FilesNil does: printed by gen2.py of this session. -/
import Derived.Test.YtnionlpebkgejaaGreatWalk1
set_option linter.unusedVariables false
set_option linter.unusedSimpArgs false
namespace Go.Proofs.YtnionlpebkgejaaGreat.Walk
open Go.RowKit

structure Keep (p : Prop) : Prop where mk :: (out : p)
theorem stat_cells {w w1 : World} {t : TypeId} {a0 a1 a2 a3 a4 : Value} (h : ∀ b o, b < (w.alloc (.cells #[a0, a1, a2, a3, a4] t)).heap.size → w1.cell? ⟨b, o, none⟩ = (w.alloc (.cells #[a0, a1, a2, a3, a4] t)).cell? ⟨b, o, none⟩) :
    w1.cell? ⟨w.heap.size, 0, none⟩ = some a0 ∧ w1.cell? ⟨w.heap.size, 1, none⟩ = some a1 ∧ w1.cell? ⟨w.heap.size, 2, none⟩ = some a2 ∧ w1.cell? ⟨w.heap.size, 3, none⟩ = some a3 ∧ w1.cell? ⟨w.heap.size, 4, none⟩ = some a4 := by
  have k : ∀ o, w1.cell? ⟨w.heap.size, o, none⟩ = (#[a0, a1, a2, a3, a4] : Array Value)[o]? := fun o => (h _ o (by simp)).trans (World.cell?_alloc_mark w _ t (0, 0) o)
  exact ⟨k 0, k 1, k 2, k 3, k 4⟩
theorem stat_marks {w w1 : World} {t : TypeId} {C : Array Value} (h : ∀ b o, b < (w.alloc (.cells C t)).heap.size → w1.frozen? ⟨b, o, none⟩ = (w.alloc (.cells C t)).frozen? ⟨b, o, none⟩) :
    w1.frozen? ⟨w.heap.size, 0, none⟩ = false ∧ w1.frozen? ⟨w.heap.size, 1, none⟩ = false ∧ w1.frozen? ⟨w.heap.size, 2, none⟩ = false ∧ w1.frozen? ⟨w.heap.size, 3, none⟩ = false ∧ w1.frozen? ⟨w.heap.size, 4, none⟩ = false := by
  have k : ∀ o, w1.frozen? ⟨w.heap.size, o, none⟩ = false := fun o => (h _ o (by simp)).trans ((World.frozen?_alloc_mark w C t 0 0 o).trans (by simp))
  exact ⟨k 0, k 1, k 2, k 3, k 4⟩

set_option maxHeartbeats 2000000 in
set_option maxRecDepth 100000 in
theorem stat_nil (w : World) (x : Value) :
    Calls Tryz.prog 11 #[.pointer none, x] w fun e w' => e = .returned (.tuple #[.agg #[.int .i64 0, .int .u16 0, .int .i64 0, .int .i64 0, .int .i64 0], .int .i64 1]) ∧ Below w.heap.size w w' := by
  go_enter Tryz.func11, Tryz.ntmps11
  go_wp2_with (go_at_call 18; refine (get_nil _ _ _).mono ?_; rintro e w1 ⟨rfl, rfl⟩)
  refine bodyPost_ret (v := .tuple #[.agg #[.int .i64 0, .int .u16 0, .int .i64 0, .int .i64 0, .int .i64 0], .int .i64 1]) (by simp [results, Tryz.results11, go_sem]) rfl ⟨rfl, ?_⟩
  exact (((Below.refl _ _).alloc (Nat.le_refl _) _).alloc (by simp) _).alloc (by simp; omega) _

set_option maxHeartbeats 2000000 in
set_option maxRecDepth 100000 in
theorem do_nil (w : World) (c0 c1 c2 c3 c4 c5 c6 : Value) :
    Calls Tryz.prog 17 #[.pointer none, .agg #[c0, c1, c2, c3, c4, c5, c6]] w fun e w' => e = .returned (.agg #[.int .i64 1, .int .i64 0, .slice none 0 0, .int .i64 0, .int .u16 0, .int .i64 0, .int .i64 0, .int .i64 0, .slice none 0 0]) ∧ Below w.heap.size w w' := by
  go_enter Tryz.func17, Tryz.ntmps17
  go_wp2_with (go_at_call 23; refine (log_nil _).mono ?_; rintro e w' ⟨rfl, rfl⟩)
  refine bodyPost_ret (v := .agg #[.int .i64 1, .int .i64 0, .slice none 0 0, .int .i64 0, .int .u16 0, .int .i64 0, .int .i64 0, .int .i64 0, .slice none 0 0]) (by simp [results, Tryz.results17, go_sem]) rfl ⟨rfl, ?_⟩
  exact (((Below.refl _ _).alloc (Nat.le_refl _) _).alloc (by simp) _).alloc (by simp; omega) _

set_option maxHeartbeats 2000000 in
set_option maxRecDepth 100000 in
theorem stat_emp (w : World) (b : Nat) (hc : w.cell? ⟨b, 0, none⟩ = some (.pointer none)) (x : Value) :
    Calls Tryz.prog 11 #[.pointer (some ⟨b, 0, none⟩), x] w fun e w' => e = .returned (.tuple #[.agg #[.int .i64 0, .int .u16 0, .int .i64 0, .int .i64 0, .int .i64 0], .int .i64 1]) ∧ Below w.heap.size w w' := by
  have hlt : b < w.heap.size := World.block_lt_of_cell? w _ hc
  go_enter Tryz.func11, Tryz.ntmps11
  go_wp2_with (go_at_call 18; refine (get_emp _ b (by repeat (first | exact hc | rw [World.cell?_alloc_lt _ _ _ (by simp; omega)])) _ _).mono ?_; rintro e w1 ⟨rfl, rfl⟩)
  refine bodyPost_ret (v := .tuple #[.agg #[.int .i64 0, .int .u16 0, .int .i64 0, .int .i64 0, .int .i64 0], .int .i64 1]) (by simp [results, Tryz.results11, go_sem]) rfl ⟨rfl, ?_⟩
  exact (((Below.refl _ _).alloc (Nat.le_refl _) _).alloc (by simp) _).alloc (by simp; omega) _

set_option maxHeartbeats 2000000 in
set_option maxRecDepth 100000 in
theorem do_emp (w : World) (b : Nat) (hc : w.cell? ⟨b, 0, none⟩ = some (.pointer none)) (c0 c1 c2 c3 c4 c5 c6 : Value) :
    Calls Tryz.prog 17 #[.pointer (some ⟨b, 0, none⟩), .agg #[c0, c1, c2, c3, c4, c5, c6]] w fun e w' => e = .returned (.agg #[.int .i64 1, .int .i64 0, .slice none 0 0, .int .i64 0, .int .u16 0, .int .i64 0, .int .i64 0, .int .i64 0, .slice none 0 0]) ∧ Below w.heap.size w w' := by
  have hlt : b < w.heap.size := World.block_lt_of_cell? w _ hc
  go_enter Tryz.func17, Tryz.ntmps17
  go_wp2_with (go_at_call 23; refine (log_emp _ b (by repeat (first | exact hc | rw [World.cell?_alloc_lt _ _ _ (by simp; omega)]))).mono ?_; rintro e w' ⟨rfl, rfl⟩)
  refine bodyPost_ret (v := .agg #[.int .i64 1, .int .i64 0, .slice none 0 0, .int .i64 0, .int .u16 0, .int .i64 0, .int .i64 0, .int .i64 0, .slice none 0 0]) (by simp [results, Tryz.results17, go_sem]) rfl ⟨rfl, ?_⟩
  exact (((Below.refl _ _).alloc (Nat.le_refl _) _).alloc (by simp) _).alloc (by simp; omega) _

set_option maxHeartbeats 2000000 in
set_option maxRecDepth 100000 in
theorem sameB (w : World) :
    Calls Tryz.prog 34 #[.slice none 0 0, .slice none 0 0] w fun e w' => e = .returned (.bool true) ∧ w = w' := by
  go_enter Tryz.func34, Tryz.ntmps34
  go_wp2
  refine wp_loop_once ?_
  go_wp2
  go_ret
  exact ⟨rfl, rfl⟩

set_option maxHeartbeats 2000000 in
set_option maxRecDepth 100000 in
theorem sameE (w : World) :
    Calls Tryz.prog 35 #[.slice none 0 0, .slice none 0 0] w fun e w' => e = .returned (.bool true) ∧ w = w' := by
  go_enter Tryz.func35, Tryz.ntmps35
  go_wp2
  refine wp_loop_once ?_
  go_wp2
  go_ret
  exact ⟨rfl, rfl⟩

set_option maxHeartbeats 2000000 in
set_option maxRecDepth 100000 in
theorem sameR (w : World) :
    Calls Tryz.prog 16 #[.agg #[.int .i64 1, .int .i64 0, .slice none 0 0, .int .i64 0, .int .u16 0, .int .i64 0, .int .i64 0, .int .i64 0, .slice none 0 0], .agg #[.int .i64 1, .int .i64 0, .slice none 0 0, .int .i64 0, .int .u16 0, .int .i64 0, .int .i64 0, .int .i64 0, .slice none 0 0]] w fun e w' => e = .returned (.bool true) ∧ Below w.heap.size w w' := by
  go_enter Tryz.func16, Tryz.ntmps16
  go_wp2_with (first | (go_at_call 34; refine (sameB _).mono ?_; rintro e w' ⟨rfl, rfl⟩) | (go_at_call 35; refine (sameE _).mono ?_; rintro e w' ⟨rfl, rfl⟩))
  go_ret
  refine ⟨rfl, ?_⟩
  exact ((Below.refl _ _).alloc (Nat.le_refl _) _).alloc (by simp) _

end Go.Proofs.YtnionlpebkgejaaGreat.Walk
