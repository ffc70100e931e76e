/- TreeNil holds: the call returns true, at every call that is handed in. No conditions. -/
import Derived.Test.YtnglnfdfjodnfaaGreatRows
import Derived.Test.YtnglnfdfjodnfaaGreatRunTreeNil
import Derived.SizedLaws
import Derived.WalkKit
import Derived.Laws.ResultCell
import Derived.Laws.Rows
import Derived.Tactics
import Derived.ProofKit
import Derived.OpenShut
import Derived.ShutString
import Derived.ChangeOld
import Derived.Below
namespace Go.Proofs.YtnglnfdfjodnfaaGreat.treeNil
open Go.ChangeShapes Go.WideShapes Go.ChangeAt Go.RowKit
set_option linter.unusedVariables false
theorem own : ownKnob Tryz.prog.godebug = none := by kernel_rfl
theorem orders : Tryz.prog.follows .mixedOrders = true := by kernel_rfl
theorem names : Exe.NamesOk Tryz.prog := fun g fn h => by
  have hall : (Tryz.prog.funcs.toList.all fun f => !(f.name == "runtime.NumGoroutine")) = true := by kernel_rfl
  have hm : fn ∈ Tryz.prog.funcs.toList := List.mem_of_getElem? (by rw [Array.getElem?_toList]; exact h)
  have := List.all_eq_true.1 hall fn hm
  simpa using this
theorem table : Exe.FT = Exe.tabOf Tryz.prog Tryz.prog.funcs.toList 0 .nil := by unfold Exe.FT; rfl
theorem coded : Exe.cp = Exe.comp Tryz.prog true := by unfold Exe.cp; rfl
theorem laidOut : laidOutB Tryz.prog = true := by kernel_rfl
theorem den {cs : Array Value} (h : Exe.Cells (fun _ => none) (List.replicate (Tryz.prog.cellsOf 60) .any) cs.toList) : Exe.DenL (fun _ => none) [.agg [.any, .any, .any, .any, .any, .any, .any]] [.agg cs] := by
  have e : List.replicate (Tryz.prog.cellsOf 60) Exe.AV.any = [.any, .any, .any, .any, .any, .any, .any] := by rw [show Tryz.prog.cellsOf 60 = 7 by kernel_rfl]; rfl
  rw [e] at h
  have := Exe.Den.agg h
  rw [Array.toArray_toList] at this
  exact .cons this .nil
theorem ran : Exe.sndK (Exe.both (Exe.tabOf Tryz.prog Tryz.prog.funcs.toList 0 .nil) (Exe.comp Tryz.prog true) [] 1000000) (.fn 5) [.agg [.any, .any, .any, .any, .any, .any, .any]] Exe.start Exe.fin = some (.bool true, Exe.start) := by
  rw [← table, ← coded]; exact Exe.runTreeNil
set_option maxRecDepth 100000 in
theorem lifted (os : Os) (started : os.Started) (H : Type) (enc : TypeId × Value → H) :
    ReturnsInHanded {} Tryz.checked os 5 .any (Rows.treeNilSpec.pre6 enc Tryz.prog Tryz.f5 Rows.treeNilRow.domain false) (Rows.treeNilSpec.post enc Tryz.prog Tryz.f5 false true false false) := by
  refine returnsInHanded_of_change_sized (C := Tryz.checked) own started (by kernel_rfl) Tryz.func5
    (ChangeSpec.witness6 (enc := enc) (C := Tryz.checked) false ⟨#[], #[.agg #[.int .u8 0, .string ByteArray.empty, .string ByteArray.empty, .int .i64 0, .int .i64 0, .int .i64 0, .slice none 0 0]], []⟩ 8 (by kernel_rfl) (by kernel_rfl) (by kernel_rfl) (by kernel_rfl)) ?_
  intro W base args ds gs before hval0 hW hcnd hsz0 _
  have hval : ∀ (j : Nat) t v, Tryz.f5.params[j]? = some t → args[j]? = some v → Value.okWide Tryz.prog W .any base t v := hval0
  have hW' := hW
  obtain ⟨p, q, hA0, hV, rfl, hfz, hnd⟩ := hW
  have hA : DataW.TrodAll enc Tryz.prog W 0 (fun _ => true) true Tryz.f5.params.toList args.toList ds p := hA0
  rw [Tryz.params5] at hA hval
  obtain ⟨v0, vs0, d0, ds0, p0, q0, hargs, rfl, rfl, h0, r0⟩ := trodAll_cons hA
  obtain ⟨rfl, rfl, rfl⟩ := trodAll_nil r0
  obtain rfl : args = #[v0] := by cases args; simp_all
  obtain ⟨rfl, rfl⟩ := trodVars_none hV
  have k0 := h0
  have lt0 : ∀ x ∈ p0, x.block < W.heap.size := by obtain ⟨m, hm⟩ := k0; exact DataW.trod_lt m _ _ _ hm
  obtain ⟨cs, rfl, hcs⟩ := Exe.struct_any Tryz.underlying60 (hval 0 60 v0 rfl rfl)
  have hdl := den hcs
  clear hA0 hval0 hsz0
  refine (Exe.exec_args (n := 1000000) Exe.memo_nil orders names hdl ran W).mono fun e W' ⟨he, h1, h2, h3, h4, h5⟩ => ?_
  subst he
  have bel : Below W.heap.size W W' := ⟨h3, h5, h4, h2, h1⟩
  exact ⟨_, rfl, _, _, _, [], _, [], hW', trodAll_mk1 (shut_bool Tryz.underlying4 _), (trodAll_cons_mk (Below.trod laidOut (by kernel_rfl) (of_decide_eq_true (by kernel_rfl)) k0 bel lt0) trodAll_mk0), rfl, bel.frame _, fun h => by cases h⟩
theorem over : Rows.treeNilRow.holds Tryz.pinned (OpenSpec.ofChange Rows.treeNilSpec) :=
  OpenClaim.holds_of_wide 5 Tryz.f5 rfl rfl rfl rfl rfl rfl rfl ⟨rfl, rfl, rfl, rfl, rfl⟩ rfl rfl rfl rfl rfl (by kernel_rfl) Tryz.func5 (by kernel_rfl)
    (of_decide_eq_true (by kernel_rfl)) (by unfold Func.isWrapper; first | (rw [if_pos (by decide +kernel)]; kernel_rfl) | (rw [if_neg (by decide +kernel)]; exact ⟨rfl, rfl⟩))
    (fun os started H enc _ => lifted os started H enc)
theorem proved : Rows.TreeNilSaid := over
#print axioms proved
end Go.Proofs.YtnglnfdfjodnfaaGreat.treeNil
namespace Go.Proofs.YtnglnfdfjodnfaaGreat
/-- The row, under a short name, for the claim. -/
theorem treeNil_holds : Rows.TreeNilSaid := treeNil.proved
end Go.Proofs.YtnglnfdfjodnfaaGreat
