/- Runs of the records; the kernel reckons them. No conditions. -/
import Derived.Test.YtpllompnfhpfmaaGreatDoorRD
namespace Go.Proofs.YtpllompnfhpfmaaGreatDoor.Exe
open Go Go.Proofs
set_option maxRecDepth 100000 in
set_option maxHeartbeats 4000000 in
theorem r66b5e24934_run : asC r66b5e24934l (fun S => sndF (bothF FT cp (opR memo1 drecs59) 100000) (.fn 66) r66b5e24934x S (fun v S' => asC r66b5e24934l2 fun S2 => matchK S r66b5e24934v S2 v S')) = some (.bool true, none) := by kernel_rfl
set_option maxRecDepth 100000 in
set_option maxHeartbeats 4000000 in
theorem r6804b647f8_run : asC r6804b647f8l (fun S => sndF (bothF FT cp (opR memo1 drecs60) 100000) (.fn 68) r6804b647f8x S (fun v S' => asC r6804b647f8l2 fun S2 => matchK S r6804b647f8v S2 v S')) = some (.bool true, none) := by kernel_rfl
set_option maxRecDepth 100000 in
set_option maxHeartbeats 4000000 in
theorem r82fb36629_run : asC r82fb36629l (fun S => sndF (bothF FT cp (opR memo1 drecs61) 100000) (.fn 8) r82fb36629x S (fun v S' => asC r82fb36629l2 fun S2 => matchK S r82fb36629v S2 v S')) = some (.bool true, none) := by kernel_rfl
set_option maxRecDepth 100000 in
set_option maxHeartbeats 4000000 in
theorem r739384623c_run : asC r739384623cl (fun S => sndF (bothF FT cp (opR memo1 drecs62) 100000) (.fn 73) r739384623cx S (fun v S' => asC r739384623cl2 fun S2 => matchK S r739384623cv S2 v S')) = some (.bool true, none) := by kernel_rfl
set_option maxRecDepth 100000 in
set_option maxHeartbeats 4000000 in
theorem r741774a54c_run : asC r741774a54cl (fun S => sndF (bothF FT cp (opR memo1 drecs63) 100000) (.fn 74) r741774a54cx S (fun v S' => asC r741774a54cl2 fun S2 => matchK S r741774a54cv S2 v S')) = some (.bool true, none) := by kernel_rfl
set_option maxRecDepth 100000 in
set_option maxHeartbeats 4000000 in
theorem r8f5a8e61f_run : asC r8f5a8e61fl (fun S => sndF (bothF FT cp (opR memo1 drecs64) 100000) (.fn 8) r8f5a8e61fx S (fun v S' => asC r8f5a8e61fl2 fun S2 => matchK S r8f5a8e61fv S2 v S')) = some (.bool true, none) := by kernel_rfl
set_option maxRecDepth 100000 in
set_option maxHeartbeats 4000000 in
theorem r69d18a8f3_run : asC r69d18a8f3l (fun S => sndF (bothF FT cp (opR memo1 drecs65) 100000) (.fn 6) r69d18a8f3x S (fun v S' => asC r69d18a8f3l2 fun S2 => matchK S r69d18a8f3v S2 v S')) = some (.bool true, none) := by kernel_rfl
set_option maxRecDepth 100000 in
set_option maxHeartbeats 4000000 in
theorem r814699198_run : asC r814699198l (fun S => sndF (bothF FT cp (opR memo1 drecs66) 100000) (.fn 8) r814699198x S (fun v S' => asC r814699198l2 fun S2 => matchK S r814699198v S2 v S')) = some (.bool true, none) := by kernel_rfl
end Go.Proofs.YtpllompnfhpfmaaGreatDoor.Exe
