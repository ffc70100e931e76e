/- Our machine's run of TreeExamples ends with true: the kernel reckons it. No conditions. -/
import Derived.KernelRfl
import Derived.Test.YtnglnfdfjodnfaaGreatFx
namespace Go.Proofs.YtnglnfdfjodnfaaGreat.Exe
open Go
set_option maxRecDepth 100000 in
theorem runTreeExamples : sndF (bothF FT cp tab 1000000) (.fn 6) [] start fin = some (.bool true, start) := by kernel_rfl
end Go.Proofs.YtnglnfdfjodnfaaGreat.Exe
