/- Runs of the records; the kernel reckons them. No conditions. -/
import Derived.Test.YtpllompnfhpfmaaGreatDoorRD
namespace Go.Proofs.YtpllompnfhpfmaaGreatDoor.Exe
open Go Go.Proofs
set_option maxRecDepth 100000 in
set_option maxHeartbeats 4000000 in
theorem r663d9dd872_run : asC r663d9dd872l (fun S => sndF (bothF FT cp (opR memo1 drecs25) 100000) (.fn 66) r663d9dd872x S (fun v S' => asC r663d9dd872l2 fun S2 => matchK S r663d9dd872v S2 v S')) = some (.bool true, none) := by kernel_rfl
set_option maxRecDepth 100000 in
set_option maxHeartbeats 4000000 in
theorem r841c72ff9f_run : asC r841c72ff9fl (fun S => sndF (bothF FT cp (opR memo1 drecs26) 100000) (.fn 84) r841c72ff9fx S (fun v S' => asC r841c72ff9fl2 fun S2 => matchK S r841c72ff9fv S2 v S')) = some (.bool true, none) := by kernel_rfl
set_option maxRecDepth 100000 in
set_option maxHeartbeats 4000000 in
theorem r88bfa03d4_run : asC r88bfa03d4l (fun S => sndF (bothF FT cp (opR memo1 drecs27) 100000) (.fn 8) r88bfa03d4x S (fun v S' => asC r88bfa03d4l2 fun S2 => matchK S r88bfa03d4v S2 v S')) = some (.bool true, none) := by kernel_rfl
set_option maxRecDepth 100000 in
set_option maxHeartbeats 4000000 in
theorem r841f93f0f_run : asC r841f93f0fl (fun S => sndF (bothF FT cp (opR memo1 drecs28) 100000) (.fn 8) r841f93f0fx S (fun v S' => asC r841f93f0fl2 fun S2 => matchK S r841f93f0fv S2 v S')) = some (.bool true, none) := by kernel_rfl
set_option maxRecDepth 100000 in
set_option maxHeartbeats 4000000 in
theorem r639b53eb0_run : asC r639b53eb0l (fun S => sndF (bothF FT cp (opR memo1 drecs29) 100000) (.fn 6) r639b53eb0x S (fun v S' => asC r639b53eb0l2 fun S2 => matchK S r639b53eb0v S2 v S')) = some (.bool true, none) := by kernel_rfl
set_option maxRecDepth 100000 in
set_option maxHeartbeats 4000000 in
theorem r73f226087b_run : asC r73f226087bl (fun S => sndF (bothF FT cp (opR memo1 drecs30) 100000) (.fn 73) r73f226087bx S (fun v S' => asC r73f226087bl2 fun S2 => matchK S r73f226087bv S2 v S')) = some (.bool true, none) := by kernel_rfl
set_option maxRecDepth 100000 in
set_option maxHeartbeats 4000000 in
theorem r747ec00a8c_run : asC r747ec00a8cl (fun S => sndF (bothF FT cp (opR memo1 drecs31) 100000) (.fn 74) r747ec00a8cx S (fun v S' => asC r747ec00a8cl2 fun S2 => matchK S r747ec00a8cv S2 v S')) = some (.bool true, none) := by kernel_rfl
set_option maxRecDepth 100000 in
set_option maxHeartbeats 4000000 in
theorem r83b093713_run : asC r83b093713l (fun S => sndF (bothF FT cp (opR memo1 drecs32) 100000) (.fn 8) r83b093713x S (fun v S' => asC r83b093713l2 fun S2 => matchK S r83b093713v S2 v S')) = some (.bool true, none) := by kernel_rfl
end Go.Proofs.YtpllompnfhpfmaaGreatDoor.Exe
