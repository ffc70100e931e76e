/- Runs of the records; the kernel reckons them. No conditions. -/
import Derived.Test.YtpllompnfhpfmaaGreatDoorRD
namespace Go.Proofs.YtpllompnfhpfmaaGreatDoor.Exe
open Go Go.Proofs
set_option maxRecDepth 100000 in
set_option maxHeartbeats 4000000 in
theorem r1760c983cfa_run : asC r1760c983cfal (fun S => sndF (bothF FT cp (opR memo1 drecs24) 100000) (.fn 176) r1760c983cfax S (fun v S' => asC r1760c983cfal2 fun S2 => matchK S r1760c983cfav S2 v S')) = some (.bool true, none) := by kernel_rfl
end Go.Proofs.YtpllompnfhpfmaaGreatDoor.Exe
