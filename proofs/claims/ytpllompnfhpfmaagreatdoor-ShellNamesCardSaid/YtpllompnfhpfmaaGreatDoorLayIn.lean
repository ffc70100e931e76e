/- Of the listed variables the powers of ten stand in their block; a world in which all of them stand. No conditions. -/
import Derived.Test.YtpllompnfhpfmaaGreatDoorRows
import Derived.Test.YtpllompnfhpfmaaGreatDoorFx
import Derived.Lay
import Derived.MakeChecks
import Derived.Lib.LaidU8
import Derived.Lib.ItoaNum
import Derived.KernelRfl
namespace Go.Proofs.YtpllompnfhpfmaaGreatDoor.shellNames
open Go Go.Proofs
theorem plainAll (W : World) : laidMetH Tryz.prog Rows.shellNamesRow.laid W = laidMet Tryz.prog Rows.shellNamesRow.laid W := MakeChecks.laidMetH_plain _ _ _ (by kernel_rfl)
theorem powData : (Rows.laid_internal_strconv_uint64pow10 : DataW Unit) = Lib.tabData .u64 Lib.pow10Tab := by kernel_rfl
theorem pow_in {W : World} (h : laidMetH Tryz.prog Rows.shellNamesRow.laid W) : Exe.lg.In W := by
  rw [plainAll] at h
  have hm : ("internal/strconv.uint64pow10", (Rows.laid_internal_strconv_uint64pow10 : DataW Unit)) ∈ Rows.shellNamesRow.laid := .tail _ (.tail _ (.head _))
  have r := Lib.laidMet.reads h hm
  rw [powData] at r
  obtain ⟨g, t, cs, fuel, p, h1, h2, h3, h4⟩ := r
  obtain rfl : 5 = g := Option.some.inj ((show Tryz.prog.globalNamed "internal/strconv.uint64pow10" = some 5 by kernel_rfl).symm.trans h1)
  obtain rfl : 517 = t := Option.some.inj ((show (Tryz.prog.globals[5]?).map (·.type) = some 517 by kernel_rfl).symm.trans h2)
  have hc : cs.toList = Lib.pow10Tab.map fun z => Value.int .u64 z :=
    Lib.cells_of_tab (show Tryz.prog.underlying 517 = some (.array 20 391) by kernel_rfl) (show Tryz.prog.underlying 391 = some (.int .u64) by kernel_rfl) (by kernel_rfl) (by kernel_rfl) h4
  unfold World.var? at h3
  rw [show Tryz.prog.globalNamed "internal/strconv.uint64pow10" = some 5 by kernel_rfl] at h3
  have h3 : (match (W.heap[5]? : Option Obj) with | some (Obj.cells c _ _) => some c | _ => none) = some cs := h3
  intro q hq
  obtain rfl := List.mem_singleton.1 hq
  cases ho : W.heap[5]? with
  | none => rw [ho] at h3; cases h3
  | some o =>
    rw [ho] at h3
    cases o with
    | cells cs' ty fz =>
      obtain rfl : cs' = cs := Option.some.inj h3
      refine ⟨_, rfl, ty, fz, ?_⟩
      congr 1
      rw [← hc]
    | _ => cases h3
end Go.Proofs.YtpllompnfhpfmaaGreatDoor.shellNames
