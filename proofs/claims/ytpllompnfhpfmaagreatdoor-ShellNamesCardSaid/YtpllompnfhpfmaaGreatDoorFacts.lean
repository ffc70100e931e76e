/- The closed facts of ShellNames's row, one by one; the kernel reckons them. No conditions. -/
import Derived.Test.YtpllompnfhpfmaaGreatDoorRows
import Derived.KernelRfl
import Derived.JoinedOf
import Derived.WalkKit
namespace Go.Proofs.YtpllompnfhpfmaaGreatDoor.shellNames
open Go Go.ChangeShapes Go.WideShapes Go.RowKit
theorem k0 : (Rows.shellNamesRow.wf (OpenSpec.ofChange Rows.shellNamesSpec)) = true := by kernel_rfl
theorem k1 : (laidOutB  Tryz.prog) = true := by kernel_rfl
theorem k2 : (mapsRowed  Tryz.prog) = true := by kernel_rfl
theorem k3 : (Tryz.f3.params.all ( Tryz.prog.readableRec ·)) = true := by kernel_rfl
theorem k4 : (namedTie  Tryz.prog Rows.shellNamesRow.named Rows.shellNamesSpec.vars) = true := by kernel_rfl
theorem k5 : ((Rows.shellNamesRow.stops == [])) = true := by kernel_rfl
theorem k6 : (( Tryz.prog.stops == [])) = true := by kernel_rfl
theorem k7 : ((Rows.shellNamesRow.knobs == [])) = true := by kernel_rfl
theorem k8 : (( Tryz.prog.stopKnobs == [])) = true := by kernel_rfl
theorem k9 : ((Rows.shellNamesRow.inPlace ==  Tryz.prog.inPlace 3)) = true := by kernel_rfl
theorem k10 : ((Rows.shellNamesRow.unfollowed ==  Tryz.prog.unfollowed 3)) = true := by kernel_rfl
theorem k11 : ((Rows.shellNamesRow.recurses ==  Tryz.prog.recurses 3)) = true := by kernel_rfl
theorem k12 : ((Rows.shellNamesRow.named ==  Tryz.prog.varsNamed 3)) = true := by kernel_rfl
theorem k13 : ((Rows.shellNamesRow.maps == (Tryz.f3.params.toList ++ Rows.shellNamesSpec.plain.varTypes  Tryz.prog).any ( Tryz.prog.mapsRec ·))) = true := by kernel_rfl
theorem k14 : ((Rows.shellNamesRow.ifaces == (Tryz.f3.params.toList ++ Rows.shellNamesSpec.plain.varTypes  Tryz.prog).any ( Tryz.prog.ifacesRec ·))) = true := by kernel_rfl
theorem k15 : ((Rows.shellNamesRow.mapsOut ==  Tryz.prog.mapsAmong Tryz.f3.resultTypes.toList)) = true := by kernel_rfl
theorem k16 : ((Rows.shellNamesRow.loops == (Tryz.f3.params.toList ++ Rows.shellNamesSpec.plain.varTypes  Tryz.prog).any ( Tryz.prog.loopsFrom ·))) = true := by kernel_rfl
theorem k17 : ((Rows.shellNamesRow.wideKeys == (Tryz.f3.params.toList ++ Rows.shellNamesSpec.plain.varTypes  Tryz.prog ++ Tryz.f3.resultTypes.toList).any ( Tryz.prog.wideKeysFrom ·))) = true := by kernel_rfl
theorem k18 : (Rows.shellNamesSpec.vars.all ( Tryz.prog.varReadable ·)) = true := by kernel_rfl
theorem k19 : (Tryz.f3.resultTypes.all (fun t =>  Tryz.prog.readableRec t && decide (t <  Tryz.prog.types.size))) = true := by kernel_rfl
theorem k20 : ((Rows.shellNamesRow.ifacesOut == Tryz.f3.resultTypes.toList.any ( Tryz.prog.ifacesRec ·))) = true := by kernel_rfl
theorem k21 : ((Rows.shellNamesRow.loopsOut == Tryz.f3.resultTypes.toList.any ( Tryz.prog.loopsFrom ·))) = true := by kernel_rfl
theorem k22 : ((Rows.shellNamesRow.plainKeys ==  Tryz.prog.plainKeys)) = true := by kernel_rfl
theorem k23 : (Rows.shellNamesRow.shortTexts.isNone) = true := by kernel_rfl
theorem k24 : ( Tryz.prog.stopsHeard) = true := by kernel_rfl
theorem k25 : ( Tryz.prog.mayEnter) = true := by kernel_rfl
theorem k26 : ((Rows.shellNamesRow.lifted ==  Tryz.prog.liftsFinal)) = true := by kernel_rfl
theorem k27 : (( Tryz.prog.make == some Rows.shellNamesRow.make)) = true := by kernel_rfl
theorem k29 : ((Rows.shellNamesRow.pinned == Rows.shellNamesRow.pinnedBy)) = true := by kernel_rfl
theorem k30 : ((Rows.shellNamesRow.veiled == (Tryz.f3.params.toList ++ Rows.shellNamesSpec.plain.varTypes  Tryz.prog ++ Tryz.f3.resultTypes.toList).any ( Tryz.prog.veiledRec ·))) = true := by kernel_rfl
theorem k31 : (Rows.shellNamesRow.veiledFits  Tryz.prog Tryz.f3.params.toList (Tryz.f3.params.toList ++ Rows.shellNamesSpec.plain.varTypes  Tryz.prog ++ Tryz.f3.resultTypes.toList)) = true := by kernel_rfl
theorem closed : joinedFacts Tryz.prog 3 Tryz.f3 Rows.shellNamesSpec Rows.shellNamesRow = true := by
  unfold joinedFacts
  rw [k0, k1, k2, k3, k4, k5, k6, k7, k8, k9, k10, k11, k12, k13, k14, k15, k16, k17, k18, k19, k20, k21, k22, k23, k24, k25, k26, k27, k29, k30, k31]
  kernel_rfl
end Go.Proofs.YtpllompnfhpfmaaGreatDoor.shellNames
