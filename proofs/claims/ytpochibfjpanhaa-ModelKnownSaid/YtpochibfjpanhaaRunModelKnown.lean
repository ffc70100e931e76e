/- Our machine's run of ModelKnown ends with true, whichever entry of a map comes next: the kernel reckons it. No conditions. -/
import Derived.KernelRfl
import Derived.Test.YtpochibfjpanhaaFx
namespace Go.Proofs.Ytpochibfjpanhaa.Exe
open Go
set_option maxRecDepth 100000 in
set_option maxHeartbeats 4000000 in
theorem runModelKnown : sndF (bothF FT cp op 100000) (.fn 3) [] start fin = some (.bool true, none) := by kernel_rfl
end Go.Proofs.Ytpochibfjpanhaa.Exe
