/- Our machine's run of OrphanKnown ends with true: the kernel reckons it. No conditions. -/
import Derived.KernelRfl
import Derived.Test.YtoldaakppnbhjaaGreatRunAwake
namespace Go.Proofs.YtoldaakppnbhjaaGreat.Exe
open Go
set_option maxRecDepth 100000 in
set_option maxHeartbeats 4000000 in
theorem runOrphanKnown : sndF (bothF FT cp tab 1000000) (.fn 4) [] start fin = some (.bool true, start) := by kernel_rfl
end Go.Proofs.YtoldaakppnbhjaaGreat.Exe
