/- Runs of the records; the kernel reckons them. No conditions. -/
import Derived.Test.YtpllompnfhpfmaaGreatDoorRD
namespace Go.Proofs.YtpllompnfhpfmaaGreatDoor.Exe
open Go Go.Proofs
set_option maxRecDepth 100000 in
set_option maxHeartbeats 4000000 in
theorem r66116e7a31_run : asC r66116e7a31l (fun S => sndF (bothF FT cp (opR memo1 drecs43) 100000) (.fn 66) r66116e7a31x S (fun v S' => asC r66116e7a31l2 fun S2 => matchK S r66116e7a31v S2 v S')) = some (.bool true, none) := by kernel_rfl
set_option maxRecDepth 100000 in
set_option maxHeartbeats 4000000 in
theorem r84675f1f98_run : asC r84675f1f98l (fun S => sndF (bothF FT cp (opR memo1 drecs44) 100000) (.fn 84) r84675f1f98x S (fun v S' => asC r84675f1f98l2 fun S2 => matchK S r84675f1f98v S2 v S')) = some (.bool true, none) := by kernel_rfl
set_option maxRecDepth 100000 in
set_option maxHeartbeats 4000000 in
theorem r8eb25aaa6_run : asC r8eb25aaa6l (fun S => sndF (bothF FT cp (opR memo1 drecs45) 100000) (.fn 8) r8eb25aaa6x S (fun v S' => asC r8eb25aaa6l2 fun S2 => matchK S r8eb25aaa6v S2 v S')) = some (.bool true, none) := by kernel_rfl
set_option maxRecDepth 100000 in
set_option maxHeartbeats 4000000 in
theorem r8b905200e_run : asC r8b905200el (fun S => sndF (bothF FT cp (opR memo1 drecs46) 100000) (.fn 8) r8b905200ex S (fun v S' => asC r8b905200el2 fun S2 => matchK S r8b905200ev S2 v S')) = some (.bool true, none) := by kernel_rfl
set_option maxRecDepth 100000 in
set_option maxHeartbeats 4000000 in
theorem r66cd9714d_run : asC r66cd9714dl (fun S => sndF (bothF FT cp (opR memo1 drecs47) 100000) (.fn 6) r66cd9714dx S (fun v S' => asC r66cd9714dl2 fun S2 => matchK S r66cd9714dv S2 v S')) = some (.bool true, none) := by kernel_rfl
set_option maxRecDepth 100000 in
set_option maxHeartbeats 4000000 in
theorem r8c1df901f_run : asC r8c1df901fl (fun S => sndF (bothF FT cp (opR memo1 drecs48) 100000) (.fn 8) r8c1df901fx S (fun v S' => asC r8c1df901fl2 fun S2 => matchK S r8c1df901fv S2 v S')) = some (.bool true, none) := by kernel_rfl
set_option maxRecDepth 100000 in
set_option maxHeartbeats 4000000 in
theorem r734923faef_run : asC r734923faefl (fun S => sndF (bothF FT cp (opR memo1 drecs49) 100000) (.fn 73) r734923faefx S (fun v S' => asC r734923faefl2 fun S2 => matchK S r734923faefv S2 v S')) = some (.bool true, none) := by kernel_rfl
set_option maxRecDepth 100000 in
set_option maxHeartbeats 4000000 in
theorem r741c67385a_run : asC r741c67385al (fun S => sndF (bothF FT cp (opR memo1 drecs50) 100000) (.fn 74) r741c67385ax S (fun v S' => asC r741c67385al2 fun S2 => matchK S r741c67385av S2 v S')) = some (.bool true, none) := by kernel_rfl
end Go.Proofs.YtpllompnfhpfmaaGreatDoor.Exe
