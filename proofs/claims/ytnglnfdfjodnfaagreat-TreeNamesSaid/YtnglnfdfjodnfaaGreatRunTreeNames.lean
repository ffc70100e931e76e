/- Our machine's run of TreeNames ends with true: the kernel reckons it. No conditions. -/
import Derived.KernelRfl
import Derived.Test.YtnglnfdfjodnfaaGreatFx
namespace Go.Proofs.YtnglnfdfjodnfaaGreat.Exe
open Go
set_option maxRecDepth 100000 in
theorem runTreeNames : sndF (bothF FT cp tab 1000000) (.fn 4) [] start fin = some (.bool true, start) := by kernel_rfl
end Go.Proofs.YtnglnfdfjodnfaaGreat.Exe
