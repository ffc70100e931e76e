/- Runs of the records; the kernel reckons them. No conditions. -/
import Derived.Test.YtpllompnfhpfmaaGreatDoorRD
namespace Go.Proofs.YtpllompnfhpfmaaGreatDoor.Exe
open Go Go.Proofs
set_option maxRecDepth 100000 in
set_option maxHeartbeats 4000000 in
theorem r73a06c415b_run : asC r73a06c415bl (fun S => sndF (bothF FT cp (opR memo1 drecs10) 100000) (.fn 73) r73a06c415bx S (fun v S' => asC r73a06c415bl2 fun S2 => matchK S r73a06c415bv S2 v S')) = some (.bool true, none) := by kernel_rfl
set_option maxRecDepth 100000 in
set_option maxHeartbeats 4000000 in
theorem r74a4211364_run : asC r74a4211364l (fun S => sndF (bothF FT cp (opR memo1 drecs11) 100000) (.fn 74) r74a4211364x S (fun v S' => asC r74a4211364l2 fun S2 => matchK S r74a4211364v S2 v S')) = some (.bool true, none) := by kernel_rfl
set_option maxRecDepth 100000 in
set_option maxHeartbeats 4000000 in
theorem r854e65d5b_run : asC r854e65d5bl (fun S => sndF (bothF FT cp (opR memo1 drecs12) 100000) (.fn 8) r854e65d5bx S (fun v S' => asC r854e65d5bl2 fun S2 => matchK S r854e65d5bv S2 v S')) = some (.bool true, none) := by kernel_rfl
set_option maxRecDepth 100000 in
set_option maxHeartbeats 4000000 in
theorem r73205bd1e6_run : asC r73205bd1e6l (fun S => sndF (bothF FT cp (opR memo1 drecs13) 100000) (.fn 73) r73205bd1e6x S (fun v S' => asC r73205bd1e6l2 fun S2 => matchK S r73205bd1e6v S2 v S')) = some (.bool true, none) := by kernel_rfl
set_option maxRecDepth 100000 in
set_option maxHeartbeats 4000000 in
theorem r74cafcb137_run : asC r74cafcb137l (fun S => sndF (bothF FT cp (opR memo1 drecs14) 100000) (.fn 74) r74cafcb137x S (fun v S' => asC r74cafcb137l2 fun S2 => matchK S r74cafcb137v S2 v S')) = some (.bool true, none) := by kernel_rfl
set_option maxRecDepth 100000 in
set_option maxHeartbeats 4000000 in
theorem r839c30b15_run : asC r839c30b15l (fun S => sndF (bothF FT cp (opR memo1 drecs15) 100000) (.fn 8) r839c30b15x S (fun v S' => asC r839c30b15l2 fun S2 => matchK S r839c30b15v S2 v S')) = some (.bool true, none) := by kernel_rfl
set_option maxRecDepth 100000 in
set_option maxHeartbeats 4000000 in
theorem r73097e53bb_run : asC r73097e53bbl (fun S => sndF (bothF FT cp (opR memo1 drecs16) 100000) (.fn 73) r73097e53bbx S (fun v S' => asC r73097e53bbl2 fun S2 => matchK S r73097e53bbv S2 v S')) = some (.bool true, none) := by kernel_rfl
set_option maxRecDepth 100000 in
set_option maxHeartbeats 4000000 in
theorem r748c90ad64_run : asC r748c90ad64l (fun S => sndF (bothF FT cp (opR memo1 drecs17) 100000) (.fn 74) r748c90ad64x S (fun v S' => asC r748c90ad64l2 fun S2 => matchK S r748c90ad64v S2 v S')) = some (.bool true, none) := by kernel_rfl
set_option maxRecDepth 100000 in
set_option maxHeartbeats 4000000 in
theorem r80cd056ef_run : asC r80cd056efl (fun S => sndF (bothF FT cp (opR memo1 drecs18) 100000) (.fn 8) r80cd056efx S (fun v S' => asC r80cd056efl2 fun S2 => matchK S r80cd056efv S2 v S')) = some (.bool true, none) := by kernel_rfl
end Go.Proofs.YtpllompnfhpfmaaGreatDoor.Exe
