/- Runs of the records; the kernel reckons them. No conditions. -/
import Derived.Test.YtpllompnfhpfmaaGreatDoorRD
namespace Go.Proofs.YtpllompnfhpfmaaGreatDoor.Exe
open Go Go.Proofs
set_option maxRecDepth 100000 in
set_option maxHeartbeats 4000000 in
theorem r1764d9a0c83_run : asC r1764d9a0c83l (fun S => sndF (bothF FT cp (opR memo1 drecs3) 100000) (.fn 176) r1764d9a0c83x S (fun v S' => asC r1764d9a0c83l2 fun S2 => matchK S r1764d9a0c83v S2 v S')) = some (.bool true, none) := by kernel_rfl
end Go.Proofs.YtpllompnfhpfmaaGreatDoor.Exe
