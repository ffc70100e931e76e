/- ShellNames: the row: the call returns true, where the listed variables hold what the program's text lays. No further conditions. -/
import Derived.Test.YtpllompnfhpfmaaGreatDoorRows
import Derived.Test.YtpllompnfhpfmaaGreatDoorRF
import Derived.Test.YtpllompnfhpfmaaGreatDoorRJ
import Derived.Test.YtpllompnfhpfmaaGreatDoorFacts
import Derived.Test.YtpllompnfhpfmaaGreatDoorLayIn
import Derived.SizedLaws
import Derived.WalkKit
import Derived.Laws.ResultCell
import Derived.Laws.Rows
import Derived.Tactics
import Derived.ProofKit
import Derived.OpenShut
import Derived.ShutString
import Derived.ChangeOld
import Derived.Below
namespace Go.Proofs.YtpllompnfhpfmaaGreatDoor.shellNames
open Go.ChangeShapes Go.WideShapes Go.ChangeAt Go.RowKit
set_option linter.unusedVariables false
theorem own : ownKnob Tryz.prog.godebug = none := by kernel_rfl
theorem ran : Exe.sndF (Exe.bothF (Exe.tabOf Tryz.prog Tryz.prog.funcs.toList 0 .nil) (Exe.comp Tryz.prog true) (Exe.opR Exe.memo1 Exe.drecs73) 100000) (.fn 3) [] Exe.start Exe.fin = some (.bool true, none) := by
  rw [← Exe.table, ← Exe.coded]; exact Exe.runShellNames
set_option maxRecDepth 100000 in
theorem lifted (os : Os) (started : os.Started) (H : Type) (enc : TypeId × Value → H) :
    ReturnsInHanded {} Tryz.checked os 3 .any (fun w args => (Rows.shellNamesSpec.pre enc Tryz.prog Tryz.f3 [] false w args ∧ laidMetH Tryz.prog Rows.shellNamesRow.laid w) ∧ sizedMet enc Tryz.prog Tryz.f3 (OpenSpec.ofChange Rows.shellNamesSpec) false w args)
      (Rows.shellNamesSpec.post enc Tryz.prog Tryz.f3 false true false false) := by
  refine returnsInHanded_of_change_and (C := Tryz.checked) (X := fun w _ => laidMetH Tryz.prog Rows.shellNamesRow.laid w) (fun _ _ _ hh h => h.of_heap hh) own started (by kernel_rfl) Tryz.func3
    (ChangeSpec.witness_shaped (enc := enc) (C := Tryz.checked) (os := os) (X := fun w _ => laidMetH Tryz.prog Rows.shellNamesRow.laid w) false (World.laidAll Tryz.prog os Rows.shellNamesRow.laid) #[] 8 (World.laidAll_os _ _ _)
      (World.shaped_of_ZipB (by kernel_rfl) (by kernel_rfl)) (by kernel_rfl) (by kernel_rfl) (by kernel_rfl)
      (by rw [plainAll]; exact laidMet_laidAll _ (by kernel_rfl) (by kernel_rfl))) ?_
  intro W base args ds gs before hval0 hW _ _ hL _
  have hW' := hW
  obtain ⟨p, q, hA0, hV, rfl, hfz, hnd⟩ := hW
  have hA : DataW.TrodAll enc Tryz.prog W 0 (fun _ => true) true Tryz.f3.params.toList args.toList ds p := hA0
  rw [Tryz.params3] at hA
  obtain ⟨hargs, rfl, rfl⟩ := trodAll_nil hA
  obtain rfl : args = #[] := by cases args; simp_all
  obtain ⟨rfl, rfl⟩ := trodVars_none hV
  clear hA0 hval0
  refine (Exe.execF (n := 100000) Exe.snOK Exe.snMemo Exe.orders Exe.names ran W (pow_in hL)).mono fun e W' ⟨he, h1, h2, h3, h4, h5⟩ => ?_
  subst he
  have bel : Below W.heap.size W W' := ⟨h3, h5, h4, h2, h1⟩
  exact ⟨_, rfl, _, _, _, [], _, [], hW', trodAll_mk1 (shut_bool Tryz.underlying4 _), trodAll_mk0, rfl, bel.frame _, fun h => by cases h⟩
theorem over : Rows.shellNamesRow.holds Tryz.pinned (OpenSpec.ofChange Rows.shellNamesSpec) :=
  OpenClaim.holds_of_wide 3 Tryz.f3 rfl rfl rfl rfl rfl rfl rfl ⟨rfl, rfl, rfl, rfl, rfl⟩ rfl rfl rfl rfl rfl (by kernel_rfl) Tryz.func3 closed
    (of_decide_eq_true (by kernel_rfl)) (by unfold Func.isWrapper; first | (rw [if_pos (by decide +kernel)]; kernel_rfl) | (rw [if_neg (by decide +kernel)]; exact ⟨rfl, rfl⟩))
    (fun os started H enc _ => lifted os started H enc)
end Go.Proofs.YtpllompnfhpfmaaGreatDoor.shellNames
