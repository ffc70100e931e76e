/- Runs of the records; the kernel reckons them. No conditions. -/
import Derived.Test.YtpllompnfhpfmaaGreatDoorRD
namespace Go.Proofs.YtpllompnfhpfmaaGreatDoor.Exe
open Go Go.Proofs
set_option maxRecDepth 100000 in
set_option maxHeartbeats 4000000 in
theorem r176b4cba455_run : asC r176b4cba455l (fun S => sndF (bothF FT cp (opR memo1 drecs58) 100000) (.fn 176) r176b4cba455x S (fun v S' => asC r176b4cba455l2 fun S2 => matchK S r176b4cba455v S2 v S')) = some (.bool true, none) := by kernel_rfl
end Go.Proofs.YtpllompnfhpfmaaGreatDoor.Exe
