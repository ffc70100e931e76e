/- What the methods of Files answer where the receiver is nil, or has no volume: printed by gen.py of this session. -/
import Derived.Test.YtnionlpebkgejaaGreatProg
import Derived.Below
import Derived.OwnWalk
import Derived.Tactics
import Derived.WalkKit
import Derived.KernelRfl
import Derived.RowKit
import Derived.Laws.ResultCell
import Derived.Laws.Rows
import Derived.WalkSpells
set_option linter.unusedVariables false
set_option linter.unusedSimpArgs false
namespace Go.Proofs.YtnionlpebkgejaaGreat.Walk
open Go.RowKit

theorem bcell {W w1 : World} (hb : Below W.heap.size W w1) : (∀ b o, b < W.heap.size → w1.cell? ⟨b, o, none⟩ = W.cell? ⟨b, o, none⟩) ∧ (∀ b o, b < W.heap.size → w1.frozen? ⟨b, o, none⟩ = W.frozen? ⟨b, o, none⟩) :=
  ⟨fun b o h => hb.cell (p := ⟨b, o, none⟩) h, fun b o h => hb.frozen (p := ⟨b, o, none⟩) h⟩
theorem bsize {W w1 : World} (hb : Below W.heap.size W w1) : W.heap.size ≤ w1.heap.size := hb.size

theorem vlog_nil (w : World) : Calls Tryz.prog 6 #[.pointer none] w fun e w' => e = .returned (.pointer none) ∧ w = w' := by
  go_enter Tryz.func6, Tryz.ntmps6
  go_wp2
  go_ret
  exact ⟨rfl, rfl⟩
theorem vlog_emp (w : World) (b : Nat) (hc : w.cell? ⟨b, 0, none⟩ = some (.pointer none)) : Calls Tryz.prog 6 #[.pointer (some ⟨b, 0, none⟩)] w fun e w' => e = .returned (.pointer none) ∧ w = w' := by
  go_enter Tryz.func6, Tryz.ntmps6
  go_wp2
  go_ret
  exact ⟨rfl, rfl⟩
theorem new_nil (w : World) : Calls Tryz.prog 4 #[.pointer none] w fun e w' => e = .returned (.pointer none) ∧ w = w' := by
  go_enter Tryz.func4, Tryz.ntmps4
  go_wp2_with (go_at_call 6; refine (vlog_nil _).mono ?_; rintro e w' ⟨rfl, rfl⟩)
  go_ret
  exact ⟨rfl, rfl⟩
theorem new_emp (w : World) (b : Nat) (hc : w.cell? ⟨b, 0, none⟩ = some (.pointer none)) : Calls Tryz.prog 4 #[.pointer (some ⟨b, 0, none⟩)] w fun e w' => e = .returned (.pointer none) ∧ w = w' := by
  go_enter Tryz.func4, Tryz.ntmps4
  go_wp2_with (go_at_call 6; refine (vlog_emp _ _ hc).mono ?_; rintro e w' ⟨rfl, rfl⟩)
  go_ret
  exact ⟨rfl, rfl⟩

set_option maxHeartbeats 1000000 in
theorem log_nil (w : World) :
    Calls Tryz.prog 23 #[.pointer none] w fun e w' => e = .returned (.tuple #[.pointer none, .int .i64 1]) ∧ w = w' := by
  go_enter Tryz.func23, Tryz.ntmps23
  go_wp2
  go_ret2
  exact ⟨rfl, rfl⟩

set_option maxHeartbeats 1000000 in
theorem log_emp (w : World) (b : Nat) (hc : w.cell? ⟨b, 0, none⟩ = some (.pointer none)) :
    Calls Tryz.prog 23 #[.pointer (some ⟨b, 0, none⟩)] w fun e w' => e = .returned (.tuple #[.pointer none, .int .i64 1]) ∧ w = w' := by
  go_enter Tryz.func23, Tryz.ntmps23
  go_wp2
  go_ret2
  exact ⟨rfl, rfl⟩

set_option maxHeartbeats 1000000 in
theorem get_nil (w : World) (x y : Value) :
    Calls Tryz.prog 18 #[.pointer none, x, y] w fun e w' => e = .returned (.tuple #[.agg #[.int .i64 0, .int .i64 0, .int .i64 0], .pointer none, .int .i64 1]) ∧ w' = w.alloc (.cells #[.int .i64 0, .int .i64 0, .int .i64 0] 41) := by
  go_enter Tryz.func18, Tryz.ntmps18
  go_wp2_with (go_at_call 23; refine (log_nil _).mono ?_; rintro e w' ⟨rfl, rfl⟩)
  refine bodyPost_ret (v := .tuple #[.agg #[.int .i64 0, .int .i64 0, .int .i64 0], .pointer none, .int .i64 1]) (by simp [results, Tryz.results18, go_sem]) rfl ⟨rfl, ?_⟩
  first | rfl | (simp [go_sem]; done)

set_option maxHeartbeats 1000000 in
theorem get_emp (w : World) (b : Nat) (hc : w.cell? ⟨b, 0, none⟩ = some (.pointer none)) (x y : Value) :
    Calls Tryz.prog 18 #[.pointer (some ⟨b, 0, none⟩), x, y] w fun e w' => e = .returned (.tuple #[.agg #[.int .i64 0, .int .i64 0, .int .i64 0], .pointer none, .int .i64 1]) ∧ w' = w.alloc (.cells #[.int .i64 0, .int .i64 0, .int .i64 0] 41) := by
  go_enter Tryz.func18, Tryz.ntmps18
  have hlt : b < w.heap.size := World.block_lt_of_cell? w _ hc
  go_wp2_with (go_at_call 23; refine (log_emp _ b (by rw [World.cell?_alloc_lt _ _ _ hlt]; exact hc)).mono ?_; rintro e w' ⟨rfl, rfl⟩)
  refine bodyPost_ret (v := .tuple #[.agg #[.int .i64 0, .int .i64 0, .int .i64 0], .pointer none, .int .i64 1]) (by simp [results, Tryz.results18, go_sem]) rfl ⟨rfl, ?_⟩
  first | rfl | (simp [go_sem]; done)

set_option maxHeartbeats 1000000 in
theorem read_nil (w : World) (x y : Value) :
    Calls Tryz.prog 8 #[.pointer none, x, y] w fun e w' => e = .returned (.tuple #[.slice none 0 0, .int .i64 1]) ∧ Below w.heap.size w w' := by
  go_enter Tryz.func8, Tryz.ntmps8
  go_wp2_with (go_at_call 18; refine (get_nil _ _ _).mono ?_; rintro e w1 ⟨rfl, rfl⟩)
  go_ret2
  refine ⟨rfl, ?_⟩
  first | exact (Below.refl _ _).alloc (Nat.le_refl _) _ | exact ((Below.refl _ _).alloc (Nat.le_refl _) _).alloc (by simp) _ | exact hb | exact hb.alloc hb.size _ | exact (hb.alloc hb.size _).setCell (by simp) _ | exact (hb.alloc hb.size _).setCell (by have := hb.size; omega) _

set_option maxHeartbeats 1000000 in
theorem read_emp (w : World) (b : Nat) (hc : w.cell? ⟨b, 0, none⟩ = some (.pointer none)) (x y : Value) :
    Calls Tryz.prog 8 #[.pointer (some ⟨b, 0, none⟩), x, y] w fun e w' => e = .returned (.tuple #[.slice none 0 0, .int .i64 1]) ∧ Below w.heap.size w w' := by
  go_enter Tryz.func8, Tryz.ntmps8
  go_wp2_with (go_at_call 18; refine (get_emp _ b hc _ _).mono ?_; rintro e w1 ⟨rfl, rfl⟩)
  go_ret2
  refine ⟨rfl, ?_⟩
  first | exact (Below.refl _ _).alloc (Nat.le_refl _) _ | exact ((Below.refl _ _).alloc (Nat.le_refl _) _).alloc (by simp) _ | exact hb | exact hb.alloc hb.size _ | exact (hb.alloc hb.size _).setCell (by simp) _ | exact (hb.alloc hb.size _).setCell (by have := hb.size; omega) _

set_option maxHeartbeats 1000000 in
theorem write_nil (w : World) (x y : Value) :
    Calls Tryz.prog 9 #[.pointer none, x, y] w fun e w' => e = .returned (.tuple #[.int .i64 0, .int .i64 1]) ∧ Below w.heap.size w w' := by
  go_enter Tryz.func9, Tryz.ntmps9
  go_wp2_with (go_at_call 18; refine (get_nil _ _ _).mono ?_; rintro e w1 ⟨rfl, rfl⟩)
  go_ret2
  refine ⟨rfl, ?_⟩
  first | exact (Below.refl _ _).alloc (Nat.le_refl _) _ | exact ((Below.refl _ _).alloc (Nat.le_refl _) _).alloc (by simp) _ | exact hb | exact hb.alloc hb.size _ | exact (hb.alloc hb.size _).setCell (by simp) _ | exact (hb.alloc hb.size _).setCell (by have := hb.size; omega) _

set_option maxHeartbeats 1000000 in
theorem write_emp (w : World) (b : Nat) (hc : w.cell? ⟨b, 0, none⟩ = some (.pointer none)) (x y : Value) :
    Calls Tryz.prog 9 #[.pointer (some ⟨b, 0, none⟩), x, y] w fun e w' => e = .returned (.tuple #[.int .i64 0, .int .i64 1]) ∧ Below w.heap.size w w' := by
  go_enter Tryz.func9, Tryz.ntmps9
  go_wp2_with (go_at_call 18; refine (get_emp _ b hc _ _).mono ?_; rintro e w1 ⟨rfl, rfl⟩)
  go_ret2
  refine ⟨rfl, ?_⟩
  first | exact (Below.refl _ _).alloc (Nat.le_refl _) _ | exact ((Below.refl _ _).alloc (Nat.le_refl _) _).alloc (by simp) _ | exact hb | exact hb.alloc hb.size _ | exact (hb.alloc hb.size _).setCell (by simp) _ | exact (hb.alloc hb.size _).setCell (by have := hb.size; omega) _

set_option maxHeartbeats 1000000 in
theorem seek_nil (w : World) (x y z : Value) :
    Calls Tryz.prog 10 #[.pointer none, x, y, z] w fun e w' => e = .returned (.tuple #[.int .i64 0, .int .i64 1]) ∧ Below w.heap.size w w' := by
  go_enter Tryz.func10, Tryz.ntmps10
  go_wp2_with (go_at_call 18; refine (get_nil _ _ _).mono ?_; rintro e w1 ⟨rfl, rfl⟩)
  go_ret2
  refine ⟨rfl, ?_⟩
  first | exact (Below.refl _ _).alloc (Nat.le_refl _) _ | exact ((Below.refl _ _).alloc (Nat.le_refl _) _).alloc (by simp) _ | exact hb | exact hb.alloc hb.size _ | exact (hb.alloc hb.size _).setCell (by simp) _ | exact (hb.alloc hb.size _).setCell (by have := hb.size; omega) _

set_option maxHeartbeats 1000000 in
theorem seek_emp (w : World) (b : Nat) (hc : w.cell? ⟨b, 0, none⟩ = some (.pointer none)) (x y z : Value) :
    Calls Tryz.prog 10 #[.pointer (some ⟨b, 0, none⟩), x, y, z] w fun e w' => e = .returned (.tuple #[.int .i64 0, .int .i64 1]) ∧ Below w.heap.size w w' := by
  go_enter Tryz.func10, Tryz.ntmps10
  go_wp2_with (go_at_call 18; refine (get_emp _ b hc _ _).mono ?_; rintro e w1 ⟨rfl, rfl⟩)
  go_ret2
  refine ⟨rfl, ?_⟩
  first | exact (Below.refl _ _).alloc (Nat.le_refl _) _ | exact ((Below.refl _ _).alloc (Nat.le_refl _) _).alloc (by simp) _ | exact hb | exact hb.alloc hb.size _ | exact (hb.alloc hb.size _).setCell (by simp) _ | exact (hb.alloc hb.size _).setCell (by have := hb.size; omega) _

set_option maxHeartbeats 1000000 in
theorem trunc_nil (w : World) (x y : Value) :
    Calls Tryz.prog 13 #[.pointer none, x, y] w fun e w' => e = .returned (.int .i64 1) ∧ Below w.heap.size w w' := by
  go_enter Tryz.func13, Tryz.ntmps13
  go_wp2_with (go_at_call 18; refine (get_nil _ _ _).mono ?_; rintro e w1 ⟨rfl, rfl⟩)
  go_ret
  refine ⟨rfl, ?_⟩
  first | exact (Below.refl _ _).alloc (Nat.le_refl _) _ | exact ((Below.refl _ _).alloc (Nat.le_refl _) _).alloc (by simp) _ | exact hb | exact hb.alloc hb.size _ | exact (hb.alloc hb.size _).setCell (by simp) _ | exact (hb.alloc hb.size _).setCell (by have := hb.size; omega) _

set_option maxHeartbeats 1000000 in
theorem trunc_emp (w : World) (b : Nat) (hc : w.cell? ⟨b, 0, none⟩ = some (.pointer none)) (x y : Value) :
    Calls Tryz.prog 13 #[.pointer (some ⟨b, 0, none⟩), x, y] w fun e w' => e = .returned (.int .i64 1) ∧ Below w.heap.size w w' := by
  go_enter Tryz.func13, Tryz.ntmps13
  go_wp2_with (go_at_call 18; refine (get_emp _ b hc _ _).mono ?_; rintro e w1 ⟨rfl, rfl⟩)
  go_ret
  refine ⟨rfl, ?_⟩
  first | exact (Below.refl _ _).alloc (Nat.le_refl _) _ | exact ((Below.refl _ _).alloc (Nat.le_refl _) _).alloc (by simp) _ | exact hb | exact hb.alloc hb.size _ | exact (hb.alloc hb.size _).setCell (by simp) _ | exact (hb.alloc hb.size _).setCell (by have := hb.size; omega) _

set_option maxHeartbeats 1000000 in
theorem close_nil (w : World) (x : Value) :
    Calls Tryz.prog 14 #[.pointer none, x] w fun e w' => e = .returned (.int .i64 1) ∧ Below w.heap.size w w' := by
  go_enter Tryz.func14, Tryz.ntmps14
  go_wp2_with (go_at_call 18; refine (get_nil _ _ _).mono ?_; rintro e w1 ⟨rfl, rfl⟩)
  go_ret
  refine ⟨rfl, ?_⟩
  first | exact (Below.refl _ _).alloc (Nat.le_refl _) _ | exact ((Below.refl _ _).alloc (Nat.le_refl _) _).alloc (by simp) _ | exact hb | exact hb.alloc hb.size _ | exact (hb.alloc hb.size _).setCell (by simp) _ | exact (hb.alloc hb.size _).setCell (by have := hb.size; omega) _

set_option maxHeartbeats 1000000 in
theorem close_emp (w : World) (b : Nat) (hc : w.cell? ⟨b, 0, none⟩ = some (.pointer none)) (x : Value) :
    Calls Tryz.prog 14 #[.pointer (some ⟨b, 0, none⟩), x] w fun e w' => e = .returned (.int .i64 1) ∧ Below w.heap.size w w' := by
  go_enter Tryz.func14, Tryz.ntmps14
  go_wp2_with (go_at_call 18; refine (get_emp _ b hc _ _).mono ?_; rintro e w1 ⟨rfl, rfl⟩)
  go_ret
  refine ⟨rfl, ?_⟩
  first | exact (Below.refl _ _).alloc (Nat.le_refl _) _ | exact ((Below.refl _ _).alloc (Nat.le_refl _) _).alloc (by simp) _ | exact hb | exact hb.alloc hb.size _ | exact (hb.alloc hb.size _).setCell (by simp) _ | exact (hb.alloc hb.size _).setCell (by have := hb.size; omega) _

set_option maxHeartbeats 1000000 in
theorem open_nil (w : World) (x y : Value) :
    Calls Tryz.prog 12 #[.pointer none, x, y] w fun e w' => e = .returned (.tuple #[.int .i64 0, .int .i64 1]) ∧ w = w' := by
  go_enter Tryz.func12, Tryz.ntmps12
  go_wp2_with (go_at_call 23; refine (log_nil _).mono ?_; rintro e w' ⟨rfl, rfl⟩)
  go_ret2
  exact ⟨rfl, rfl⟩

set_option maxHeartbeats 1000000 in
theorem open_emp (w : World) (b : Nat) (hc : w.cell? ⟨b, 0, none⟩ = some (.pointer none)) (x y : Value) :
    Calls Tryz.prog 12 #[.pointer (some ⟨b, 0, none⟩), x, y] w fun e w' => e = .returned (.tuple #[.int .i64 0, .int .i64 1]) ∧ w = w' := by
  go_enter Tryz.func12, Tryz.ntmps12
  go_wp2_with (go_at_call 23; refine (log_emp _ b hc).mono ?_; rintro e w' ⟨rfl, rfl⟩)
  go_ret2
  exact ⟨rfl, rfl⟩

set_option maxHeartbeats 1000000 in
theorem full_nil (w : World) :
    Calls Tryz.prog 15 #[.pointer none] w fun e w' => e = .returned (.bool false) ∧ w = w' := by
  go_enter Tryz.func15, Tryz.ntmps15
  go_wp2
  go_ret
  exact ⟨rfl, rfl⟩

set_option maxHeartbeats 1000000 in
theorem full_emp (w : World) (b : Nat) (hc : w.cell? ⟨b, 0, none⟩ = some (.pointer none)) :
    Calls Tryz.prog 15 #[.pointer (some ⟨b, 0, none⟩)] w fun e w' => e = .returned (.bool false) ∧ w = w' := by
  go_enter Tryz.func15, Tryz.ntmps15
  go_wp2
  go_ret
  exact ⟨rfl, rfl⟩

end Go.Proofs.YtnionlpebkgejaaGreat.Walk
