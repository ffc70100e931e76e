/- Runs of the records; the kernel reckons them. No conditions. -/
import Derived.Test.YtpllompnfhpfmaaGreatDoorRD
namespace Go.Proofs.YtpllompnfhpfmaaGreatDoor.Exe
open Go Go.Proofs
set_option maxRecDepth 100000 in
set_option maxHeartbeats 4000000 in
theorem r80b7c14d7_run : asC r80b7c14d7l (fun S => sndF (bothF FT cp (opR memo1 recs0) 100000) (.fn 8) r80b7c14d7x S (fun v S' => asC r80b7c14d7l2 fun S2 => matchK S r80b7c14d7v S2 v S')) = some (.bool true, none) := by kernel_rfl
set_option maxRecDepth 100000 in
set_option maxHeartbeats 4000000 in
theorem r64447c1c62_run : asC r64447c1c62l (fun S => sndF (bothF FT cp (opR memo1 drecs0) 100000) (.fn 64) r64447c1c62x S (fun v S' => asC r64447c1c62l2 fun S2 => matchK S r64447c1c62v S2 v S')) = some (.bool true, none) := by kernel_rfl
set_option maxRecDepth 100000 in
set_option maxHeartbeats 4000000 in
theorem r841df2b3e_run : asC r841df2b3el (fun S => sndF (bothF FT cp (opR memo1 drecs1) 100000) (.fn 8) r841df2b3ex S (fun v S' => asC r841df2b3el2 fun S2 => matchK S r841df2b3ev S2 v S')) = some (.bool true, none) := by kernel_rfl
set_option maxRecDepth 100000 in
set_option maxHeartbeats 4000000 in
theorem r6509d85a8e_run : asC r6509d85a8el (fun S => sndF (bothF FT cp (opR memo1 drecs2) 100000) (.fn 65) r6509d85a8ex S (fun v S' => asC r6509d85a8el2 fun S2 => matchK S r6509d85a8ev S2 v S')) = some (.bool true, none) := by kernel_rfl
end Go.Proofs.YtpllompnfhpfmaaGreatDoor.Exe
