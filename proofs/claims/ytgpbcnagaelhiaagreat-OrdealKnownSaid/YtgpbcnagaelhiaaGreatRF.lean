/- Our machine's run of OrdealKnown ends with true: the kernel reckons it. No conditions. -/
import Derived.Test.YtgpbcnagaelhiaaGreatRD
namespace Go.Proofs.YtgpbcnagaelhiaaGreat.Exe
open Go Go.Proofs
set_option maxRecDepth 100000 in
set_option maxHeartbeats 4000000 in
theorem runOrdealKnown : sndF (bothF FT cp (opR memo1 frecs) 100000) (.fn 3) [] start fin = some (.bool true, none) := by kernel_rfl
end Go.Proofs.YtgpbcnagaelhiaaGreat.Exe
