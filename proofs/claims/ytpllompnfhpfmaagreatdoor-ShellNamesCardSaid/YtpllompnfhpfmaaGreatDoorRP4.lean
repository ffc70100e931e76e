/- Runs of the records; the kernel reckons them. No conditions. -/
import Derived.Test.YtpllompnfhpfmaaGreatDoorRD
namespace Go.Proofs.YtpllompnfhpfmaaGreatDoor.Exe
open Go Go.Proofs
set_option maxRecDepth 100000 in
set_option maxHeartbeats 4000000 in
theorem r73ddf4807a_run : asC r73ddf4807al (fun S => sndF (bothF FT cp (opR memo1 drecs19) 100000) (.fn 73) r73ddf4807ax S (fun v S' => asC r73ddf4807al2 fun S2 => matchK S r73ddf4807av S2 v S')) = some (.bool true, none) := by kernel_rfl
set_option maxRecDepth 100000 in
set_option maxHeartbeats 4000000 in
theorem r74064df856_run : asC r74064df856l (fun S => sndF (bothF FT cp (opR memo1 drecs20) 100000) (.fn 74) r74064df856x S (fun v S' => asC r74064df856l2 fun S2 => matchK S r74064df856v S2 v S')) = some (.bool true, none) := by kernel_rfl
set_option maxRecDepth 100000 in
set_option maxHeartbeats 4000000 in
theorem r8ad46df02_run : asC r8ad46df02l (fun S => sndF (bothF FT cp (opR memo1 drecs21) 100000) (.fn 8) r8ad46df02x S (fun v S' => asC r8ad46df02l2 fun S2 => matchK S r8ad46df02v S2 v S')) = some (.bool true, none) := by kernel_rfl
set_option maxRecDepth 100000 in
set_option maxHeartbeats 4000000 in
theorem r73bf1c20ab_run : asC r73bf1c20abl (fun S => sndF (bothF FT cp (opR memo1 drecs22) 100000) (.fn 73) r73bf1c20abx S (fun v S' => asC r73bf1c20abl2 fun S2 => matchK S r73bf1c20abv S2 v S')) = some (.bool true, none) := by kernel_rfl
set_option maxRecDepth 100000 in
set_option maxHeartbeats 4000000 in
theorem r74ca2ffaa4_run : asC r74ca2ffaa4l (fun S => sndF (bothF FT cp (opR memo1 drecs23) 100000) (.fn 74) r74ca2ffaa4x S (fun v S' => asC r74ca2ffaa4l2 fun S2 => matchK S r74ca2ffaa4v S2 v S')) = some (.bool true, none) := by kernel_rfl
end Go.Proofs.YtpllompnfhpfmaaGreatDoor.Exe
