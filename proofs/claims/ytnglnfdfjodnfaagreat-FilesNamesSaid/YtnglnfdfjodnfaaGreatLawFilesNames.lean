/- FilesNames holds: the call returns true, at every call that is handed in. No conditions. -/
import Derived.Test.YtnglnfdfjodnfaaGreatRows
import Derived.Test.YtnglnfdfjodnfaaGreatRunFilesNames
import Derived.SizedLaws
import Derived.WalkKit
import Derived.Laws.ResultCell
import Derived.Laws.Rows
import Derived.Tactics
import Derived.ProofKit
import Derived.OpenShut
import Derived.ShutString
import Derived.ChangeOld
import Derived.Below
namespace Go.Proofs.YtnglnfdfjodnfaaGreat.filesNames
open Go.ChangeShapes Go.WideShapes Go.ChangeAt Go.RowKit
set_option linter.unusedVariables false
theorem own : ownKnob Tryz.prog.godebug = none := by kernel_rfl
theorem orders : Tryz.prog.follows .mixedOrders = true := by kernel_rfl
theorem names : Exe.NamesOk Tryz.prog := fun g fn h => by
  have hall : (Tryz.prog.funcs.toList.all fun f => !(f.name == "runtime.NumGoroutine")) = true := by kernel_rfl
  have hm : fn ∈ Tryz.prog.funcs.toList := List.mem_of_getElem? (by rw [Array.getElem?_toList]; exact h)
  have := List.all_eq_true.1 hall fn hm
  simpa using this
theorem table : Exe.FT = Exe.tabOf Tryz.prog Tryz.prog.funcs.toList 0 .nil := by unfold Exe.FT; rfl
theorem coded : Exe.cp = Exe.comp Tryz.prog true := by unfold Exe.cp; rfl
theorem ran : Exe.sndK (Exe.both (Exe.tabOf Tryz.prog Tryz.prog.funcs.toList 0 .nil) (Exe.comp Tryz.prog true) [] 1000000) (.fn 3) [] Exe.start Exe.fin = some (.bool true, Exe.start) := by
  rw [← table, ← coded]; exact Exe.runFilesNames
set_option maxRecDepth 100000 in
theorem lifted (os : Os) (started : os.Started) (H : Type) (enc : TypeId × Value → H) :
    ReturnsInHanded {} Tryz.checked os 3 .any (Rows.filesNamesSpec.pre6 enc Tryz.prog Tryz.f3 Rows.filesNamesRow.domain false) (Rows.filesNamesSpec.post enc Tryz.prog Tryz.f3 false true false false) := by
  refine returnsInHanded_of_change_sized (C := Tryz.checked) own started (by kernel_rfl) Tryz.func3
    (ChangeSpec.witness6 (enc := enc) (C := Tryz.checked) false ⟨#[], #[], []⟩ 8 (by kernel_rfl) (by kernel_rfl) (by kernel_rfl) (by kernel_rfl)) ?_
  intro W base args ds gs before hval0 hW hcnd hsz0 _
  have hval : ∀ (j : Nat) t v, Tryz.f3.params[j]? = some t → args[j]? = some v → Value.okWide Tryz.prog W .any base t v := hval0
  have hW' := hW
  obtain ⟨p, q, hA0, hV, rfl, hfz, hnd⟩ := hW
  have hA : DataW.TrodAll enc Tryz.prog W 0 (fun _ => true) true Tryz.f3.params.toList args.toList ds p := hA0
  rw [Tryz.params3] at hA hval
  obtain ⟨hargs, rfl, rfl⟩ := trodAll_nil hA
  obtain rfl : args = #[] := by cases args; simp_all
  obtain ⟨rfl, rfl⟩ := trodVars_none hV
  clear hA0 hval0 hsz0
  refine (Exe.exec (n := 1000000) Exe.memo_nil orders names ran W).mono fun e W' ⟨he, h1, h2, h3, h4, h5⟩ => ?_
  subst he
  have bel : Below W.heap.size W W' := ⟨h3, h5, h4, h2, h1⟩
  exact ⟨_, rfl, _, _, _, [], _, [], hW', trodAll_mk1 (shut_bool Tryz.underlying4 _), trodAll_mk0, rfl, bel.frame _, fun h => by cases h⟩
theorem over : Rows.filesNamesRow.holds Tryz.pinned (OpenSpec.ofChange Rows.filesNamesSpec) :=
  OpenClaim.holds_of_wide 3 Tryz.f3 rfl rfl rfl rfl rfl rfl rfl ⟨rfl, rfl, rfl, rfl, rfl⟩ rfl rfl rfl rfl rfl (by kernel_rfl) Tryz.func3 (by kernel_rfl)
    (of_decide_eq_true (by kernel_rfl)) (by unfold Func.isWrapper; first | (rw [if_pos (by decide +kernel)]; kernel_rfl) | (rw [if_neg (by decide +kernel)]; exact ⟨rfl, rfl⟩))
    (fun os started H enc _ => lifted os started H enc)
theorem proved : Rows.FilesNamesSaid := over
#print axioms proved
end Go.Proofs.YtnglnfdfjodnfaaGreat.filesNames
namespace Go.Proofs.YtnglnfdfjodnfaaGreat
/-- The row, under a short name, for the claim. -/
theorem filesNames_holds : Rows.FilesNamesSaid := filesNames.proved
end Go.Proofs.YtnglnfdfjodnfaaGreat
