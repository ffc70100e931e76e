/- Runs of the records; the kernel reckons them. No conditions. -/
import Derived.Test.YtgpbcnagaelhiaaGreatRD
namespace Go.Proofs.YtgpbcnagaelhiaaGreat.Exe
open Go Go.Proofs
set_option maxRecDepth 100000 in
set_option maxHeartbeats 4000000 in
theorem ordB_run : asC ordBl (fun S => sndF (bothF FT cp (opR memo1 drecs13) 100000) (.fn 4) ordBx S (fun v S' => asC ordBl2 fun S2 => matchK S ordBv S2 v S')) = some (.bool true, none) := by kernel_rfl
set_option maxRecDepth 100000 in
set_option maxHeartbeats 4000000 in
theorem ordC_run : asC ordCl (fun S => sndF (bothF FT cp (opR memo1 drecs13) 100000) (.fn 4) ordCx S (fun v S' => asC ordCl2 fun S2 => matchK S ordCv S2 v S')) = some (.bool true, none) := by kernel_rfl
end Go.Proofs.YtgpbcnagaelhiaaGreat.Exe
