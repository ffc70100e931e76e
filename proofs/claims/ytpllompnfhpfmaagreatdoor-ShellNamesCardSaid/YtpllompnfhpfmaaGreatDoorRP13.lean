/- Runs of the records; the kernel reckons them. No conditions. -/
import Derived.Test.YtpllompnfhpfmaaGreatDoorRD
namespace Go.Proofs.YtpllompnfhpfmaaGreatDoor.Exe
open Go Go.Proofs
set_option maxRecDepth 100000 in
set_option maxHeartbeats 4000000 in
theorem r80f07db7d_run : asC r80f07db7dl (fun S => sndF (bothF FT cp (opR memo1 drecs67) 100000) (.fn 8) r80f07db7dx S (fun v S' => asC r80f07db7dl2 fun S2 => matchK S r80f07db7dv S2 v S')) = some (.bool true, none) := by kernel_rfl
set_option maxRecDepth 100000 in
set_option maxHeartbeats 4000000 in
theorem r822af1f6f_run : asC r822af1f6fl (fun S => sndF (bothF FT cp (opR memo1 drecs68) 100000) (.fn 8) r822af1f6fx S (fun v S' => asC r822af1f6fl2 fun S2 => matchK S r822af1f6fv S2 v S')) = some (.bool true, none) := by kernel_rfl
set_option maxRecDepth 100000 in
set_option maxHeartbeats 4000000 in
theorem r839e89f82_run : asC r839e89f82l (fun S => sndF (bothF FT cp (opR memo1 drecs69) 100000) (.fn 8) r839e89f82x S (fun v S' => asC r839e89f82l2 fun S2 => matchK S r839e89f82v S2 v S')) = some (.bool true, none) := by kernel_rfl
set_option maxRecDepth 100000 in
set_option maxHeartbeats 4000000 in
theorem r650c98033_run : asC r650c98033l (fun S => sndF (bothF FT cp (opR memo1 drecs70) 100000) (.fn 6) r650c98033x S (fun v S' => asC r650c98033l2 fun S2 => matchK S r650c98033v S2 v S')) = some (.bool true, none) := by kernel_rfl
set_option maxRecDepth 100000 in
set_option maxHeartbeats 4000000 in
theorem r8158719a7_run : asC r8158719a7l (fun S => sndF (bothF FT cp (opR memo1 drecs71) 100000) (.fn 8) r8158719a7x S (fun v S' => asC r8158719a7l2 fun S2 => matchK S r8158719a7v S2 v S')) = some (.bool true, none) := by kernel_rfl
set_option maxRecDepth 100000 in
set_option maxHeartbeats 4000000 in
theorem r697d26694_run : asC r697d26694l (fun S => sndF (bothF FT cp (opR memo1 drecs72) 100000) (.fn 6) r697d26694x S (fun v S' => asC r697d26694l2 fun S2 => matchK S r697d26694v S2 v S')) = some (.bool true, none) := by kernel_rfl
end Go.Proofs.YtpllompnfhpfmaaGreatDoor.Exe
