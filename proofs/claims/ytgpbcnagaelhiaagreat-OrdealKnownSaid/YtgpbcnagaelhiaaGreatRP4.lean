/- Runs of the records; the kernel reckons them. No conditions. -/
import Derived.Test.YtgpbcnagaelhiaaGreatRD
namespace Go.Proofs.YtgpbcnagaelhiaaGreat.Exe
open Go Go.Proofs
set_option maxRecDepth 100000 in
set_option maxHeartbeats 4000000 in
theorem ordD_run : asC ordDl (fun S => sndF (bothF FT cp (opR memo1 drecs13) 100000) (.fn 4) ordDx S (fun v S' => asC ordDl2 fun S2 => matchK S ordDv S2 v S')) = some (.bool true, none) := by kernel_rfl
set_option maxRecDepth 100000 in
set_option maxHeartbeats 4000000 in
theorem ordE_run : asC ordEl (fun S => sndF (bothF FT cp (opR memo1 drecs13) 100000) (.fn 4) ordEx S (fun v S' => asC ordEl2 fun S2 => matchK S ordEv S2 v S')) = some (.bool true, none) := by kernel_rfl
end Go.Proofs.YtgpbcnagaelhiaaGreat.Exe
