/- Runs of the records; the kernel reckons them. No conditions. -/
import Derived.Test.YtpllompnfhpfmaaGreatDoorRD
namespace Go.Proofs.YtpllompnfhpfmaaGreatDoor.Exe
open Go Go.Proofs
set_option maxRecDepth 100000 in
set_option maxHeartbeats 4000000 in
theorem r8a8c1cfd8_run : asC r8a8c1cfd8l (fun S => sndF (bothF FT cp (opR memo1 drecs51) 100000) (.fn 8) r8a8c1cfd8x S (fun v S' => asC r8a8c1cfd8l2 fun S2 => matchK S r8a8c1cfd8v S2 v S')) = some (.bool true, none) := by kernel_rfl
set_option maxRecDepth 100000 in
set_option maxHeartbeats 4000000 in
theorem r73429bac30_run : asC r73429bac30l (fun S => sndF (bothF FT cp (opR memo1 drecs52) 100000) (.fn 73) r73429bac30x S (fun v S' => asC r73429bac30l2 fun S2 => matchK S r73429bac30v S2 v S')) = some (.bool true, none) := by kernel_rfl
set_option maxRecDepth 100000 in
set_option maxHeartbeats 4000000 in
theorem r8960262f8_run : asC r8960262f8l (fun S => sndF (bothF FT cp (opR memo1 drecs53) 100000) (.fn 8) r8960262f8x S (fun v S' => asC r8960262f8l2 fun S2 => matchK S r8960262f8v S2 v S')) = some (.bool true, none) := by kernel_rfl
set_option maxRecDepth 100000 in
set_option maxHeartbeats 4000000 in
theorem r730b33a9b0_run : asC r730b33a9b0l (fun S => sndF (bothF FT cp (opR memo1 drecs54) 100000) (.fn 73) r730b33a9b0x S (fun v S' => asC r730b33a9b0l2 fun S2 => matchK S r730b33a9b0v S2 v S')) = some (.bool true, none) := by kernel_rfl
set_option maxRecDepth 100000 in
set_option maxHeartbeats 4000000 in
theorem r8e693b355_run : asC r8e693b355l (fun S => sndF (bothF FT cp (opR memo1 drecs55) 100000) (.fn 8) r8e693b355x S (fun v S' => asC r8e693b355l2 fun S2 => matchK S r8e693b355v S2 v S')) = some (.bool true, none) := by kernel_rfl
set_option maxRecDepth 100000 in
set_option maxHeartbeats 4000000 in
theorem r82a505fba_run : asC r82a505fbal (fun S => sndF (bothF FT cp (opR memo1 drecs56) 100000) (.fn 8) r82a505fbax S (fun v S' => asC r82a505fbal2 fun S2 => matchK S r82a505fbav S2 v S')) = some (.bool true, none) := by kernel_rfl
set_option maxRecDepth 100000 in
set_option maxHeartbeats 4000000 in
theorem r650af6da89_run : asC r650af6da89l (fun S => sndF (bothF FT cp (opR memo1 drecs57) 100000) (.fn 65) r650af6da89x S (fun v S' => asC r650af6da89l2 fun S2 => matchK S r650af6da89v S2 v S')) = some (.bool true, none) := by kernel_rfl
end Go.Proofs.YtpllompnfhpfmaaGreatDoor.Exe
