/- Runs of the records; the kernel reckons them. No conditions. -/
import Derived.Test.YtpllompnfhpfmaaGreatDoorRD
namespace Go.Proofs.YtpllompnfhpfmaaGreatDoor.Exe
open Go Go.Proofs
set_option maxRecDepth 100000 in
set_option maxHeartbeats 4000000 in
theorem r176dcc8a3da_run : asC r176dcc8a3dal (fun S => sndF (bothF FT cp (opR memo1 drecs42) 100000) (.fn 176) r176dcc8a3dax S (fun v S' => asC r176dcc8a3dal2 fun S2 => matchK S r176dcc8a3dav S2 v S')) = some (.bool true, none) := by kernel_rfl
end Go.Proofs.YtpllompnfhpfmaaGreatDoor.Exe
