/- Runs of the records; the kernel reckons them. No conditions. -/
import Derived.Test.YtgpbcnagaelhiaaGreatRD
namespace Go.Proofs.YtgpbcnagaelhiaaGreat.Exe
open Go Go.Proofs
set_option maxRecDepth 100000 in
set_option maxHeartbeats 4000000 in
theorem r98431c14ea_run : asC r98431c14eal (fun S => sndF (bothF FT cp (opR memo1 drecs9) 100000) (.fn 98) r98431c14eax S (fun v S' => asC r98431c14eal2 fun S2 => matchK S r98431c14eav S2 v S')) = some (.bool true, none) := by kernel_rfl
set_option maxRecDepth 100000 in
set_option maxHeartbeats 4000000 in
theorem r101519667b9_run : asC r101519667b9l (fun S => sndF (bothF FT cp (opR memo1 drecs10) 100000) (.fn 101) r101519667b9x S (fun v S' => asC r101519667b9l2 fun S2 => matchK S r101519667b9v S2 v S')) = some (.bool true, none) := by kernel_rfl
set_option maxRecDepth 100000 in
set_option maxHeartbeats 4000000 in
theorem r100e035a78a_run : asC r100e035a78al (fun S => sndF (bothF FT cp (opR memo1 drecs11) 100000) (.fn 100) r100e035a78ax S (fun v S' => asC r100e035a78al2 fun S2 => matchK S r100e035a78av S2 v S')) = some (.bool true, none) := by kernel_rfl
set_option maxRecDepth 100000 in
set_option maxHeartbeats 4000000 in
theorem r102864667ec_run : asC r102864667ecl (fun S => sndF (bothF FT cp (opR memo1 drecs12) 100000) (.fn 102) r102864667ecx S (fun v S' => asC r102864667ecl2 fun S2 => matchK S r102864667ecv S2 v S')) = some (.bool true, none) := by kernel_rfl
end Go.Proofs.YtgpbcnagaelhiaaGreat.Exe
