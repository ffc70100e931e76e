/- Runs of the records; the kernel reckons them. No conditions. -/
import Derived.Test.YtpllompnfhpfmaaGreatDoorRD
namespace Go.Proofs.YtpllompnfhpfmaaGreatDoor.Exe
open Go Go.Proofs
set_option maxRecDepth 100000 in
set_option maxHeartbeats 4000000 in
theorem r669b069b0_run : asC r669b069b0l (fun S => sndF (bothF FT cp (opR memo1 drecs33) 100000) (.fn 6) r669b069b0x S (fun v S' => asC r669b069b0l2 fun S2 => matchK S r669b069b0v S2 v S')) = some (.bool true, none) := by kernel_rfl
set_option maxRecDepth 100000 in
set_option maxHeartbeats 4000000 in
theorem r73bebf3ba0_run : asC r73bebf3ba0l (fun S => sndF (bothF FT cp (opR memo1 drecs34) 100000) (.fn 73) r73bebf3ba0x S (fun v S' => asC r73bebf3ba0l2 fun S2 => matchK S r73bebf3ba0v S2 v S')) = some (.bool true, none) := by kernel_rfl
set_option maxRecDepth 100000 in
set_option maxHeartbeats 4000000 in
theorem r74d56d2ca7_run : asC r74d56d2ca7l (fun S => sndF (bothF FT cp (opR memo1 drecs35) 100000) (.fn 74) r74d56d2ca7x S (fun v S' => asC r74d56d2ca7l2 fun S2 => matchK S r74d56d2ca7v S2 v S')) = some (.bool true, none) := by kernel_rfl
set_option maxRecDepth 100000 in
set_option maxHeartbeats 4000000 in
theorem r8dce28e07_run : asC r8dce28e07l (fun S => sndF (bothF FT cp (opR memo1 drecs36) 100000) (.fn 8) r8dce28e07x S (fun v S' => asC r8dce28e07l2 fun S2 => matchK S r8dce28e07v S2 v S')) = some (.bool true, none) := by kernel_rfl
set_option maxRecDepth 100000 in
set_option maxHeartbeats 4000000 in
theorem r73111d6c0a_run : asC r73111d6c0al (fun S => sndF (bothF FT cp (opR memo1 drecs37) 100000) (.fn 73) r73111d6c0ax S (fun v S' => asC r73111d6c0al2 fun S2 => matchK S r73111d6c0av S2 v S')) = some (.bool true, none) := by kernel_rfl
set_option maxRecDepth 100000 in
set_option maxHeartbeats 4000000 in
theorem r74b2bc758f_run : asC r74b2bc758fl (fun S => sndF (bothF FT cp (opR memo1 drecs38) 100000) (.fn 74) r74b2bc758fx S (fun v S' => asC r74b2bc758fl2 fun S2 => matchK S r74b2bc758fv S2 v S')) = some (.bool true, none) := by kernel_rfl
set_option maxRecDepth 100000 in
set_option maxHeartbeats 4000000 in
theorem r87b3a053e_run : asC r87b3a053el (fun S => sndF (bothF FT cp (opR memo1 drecs39) 100000) (.fn 8) r87b3a053ex S (fun v S' => asC r87b3a053el2 fun S2 => matchK S r87b3a053ev S2 v S')) = some (.bool true, none) := by kernel_rfl
set_option maxRecDepth 100000 in
set_option maxHeartbeats 4000000 in
theorem r7347801b06_run : asC r7347801b06l (fun S => sndF (bothF FT cp (opR memo1 drecs40) 100000) (.fn 73) r7347801b06x S (fun v S' => asC r7347801b06l2 fun S2 => matchK S r7347801b06v S2 v S')) = some (.bool true, none) := by kernel_rfl
set_option maxRecDepth 100000 in
set_option maxHeartbeats 4000000 in
theorem r74c4aac753_run : asC r74c4aac753l (fun S => sndF (bothF FT cp (opR memo1 drecs41) 100000) (.fn 74) r74c4aac753x S (fun v S' => asC r74c4aac753l2 fun S2 => matchK S r74c4aac753v S2 v S')) = some (.bool true, none) := by kernel_rfl
end Go.Proofs.YtpllompnfhpfmaaGreatDoor.Exe
