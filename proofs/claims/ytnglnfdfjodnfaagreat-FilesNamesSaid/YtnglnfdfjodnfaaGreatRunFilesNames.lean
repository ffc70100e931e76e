/- Our machine's run of FilesNames ends with true: the kernel reckons it. No conditions. -/
import Derived.KernelRfl
import Derived.Test.YtnglnfdfjodnfaaGreatProg
import Derived.Test.YtnglnfdfjodnfaaGreatYq
namespace Go.Proofs.YtnglnfdfjodnfaaGreat.Exe
open Go
noncomputable def FT : PT AF := tabOf Tryz.prog Tryz.prog.funcs.toList 0 .nil
noncomputable def cp : Nat → Code → AC := comp Tryz.prog true
set_option maxRecDepth 100000 in
theorem runFilesNames : sndK (both FT cp [] 1000000) (.fn 3) [] start fin = some (.bool true, start) := by kernel_rfl
end Go.Proofs.YtnglnfdfjodnfaaGreat.Exe
