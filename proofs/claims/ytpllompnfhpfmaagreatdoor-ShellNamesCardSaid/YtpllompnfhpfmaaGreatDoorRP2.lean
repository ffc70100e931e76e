/- Runs of the records; the kernel reckons them. No conditions. -/
import Derived.Test.YtpllompnfhpfmaaGreatDoorRD
namespace Go.Proofs.YtpllompnfhpfmaaGreatDoor.Exe
open Go Go.Proofs
set_option maxRecDepth 100000 in
set_option maxHeartbeats 4000000 in
theorem r66e556daf9_run : asC r66e556daf9l (fun S => sndF (bothF FT cp (opR memo1 drecs4) 100000) (.fn 66) r66e556daf9x S (fun v S' => asC r66e556daf9l2 fun S2 => matchK S r66e556daf9v S2 v S')) = some (.bool true, none) := by kernel_rfl
set_option maxRecDepth 100000 in
set_option maxHeartbeats 4000000 in
theorem r68f23942a6_run : asC r68f23942a6l (fun S => sndF (bothF FT cp (opR memo1 drecs5) 100000) (.fn 68) r68f23942a6x S (fun v S' => asC r68f23942a6l2 fun S2 => matchK S r68f23942a6v S2 v S')) = some (.bool true, none) := by kernel_rfl
set_option maxRecDepth 100000 in
set_option maxHeartbeats 4000000 in
theorem r876b79d03_run : asC r876b79d03l (fun S => sndF (bothF FT cp (opR memo1 drecs6) 100000) (.fn 8) r876b79d03x S (fun v S' => asC r876b79d03l2 fun S2 => matchK S r876b79d03v S2 v S')) = some (.bool true, none) := by kernel_rfl
set_option maxRecDepth 100000 in
set_option maxHeartbeats 4000000 in
theorem r736cde7ec1_run : asC r736cde7ec1l (fun S => sndF (bothF FT cp (opR memo1 drecs7) 100000) (.fn 73) r736cde7ec1x S (fun v S' => asC r736cde7ec1l2 fun S2 => matchK S r736cde7ec1v S2 v S')) = some (.bool true, none) := by kernel_rfl
set_option maxRecDepth 100000 in
set_option maxHeartbeats 4000000 in
theorem r744f5add78_run : asC r744f5add78l (fun S => sndF (bothF FT cp (opR memo1 drecs8) 100000) (.fn 74) r744f5add78x S (fun v S' => asC r744f5add78l2 fun S2 => matchK S r744f5add78v S2 v S')) = some (.bool true, none) := by kernel_rfl
set_option maxRecDepth 100000 in
set_option maxHeartbeats 4000000 in
theorem r86298c7a7_run : asC r86298c7a7l (fun S => sndF (bothF FT cp (opR memo1 drecs9) 100000) (.fn 8) r86298c7a7x S (fun v S' => asC r86298c7a7l2 fun S2 => matchK S r86298c7a7v S2 v S')) = some (.bool true, none) := by kernel_rfl
end Go.Proofs.YtpllompnfhpfmaaGreatDoor.Exe
