/- Runs of the records; the kernel reckons them. No conditions. -/
import Derived.Test.YtgpbcnagaelhiaaGreatRD
namespace Go.Proofs.YtgpbcnagaelhiaaGreat.Exe
open Go Go.Proofs
set_option maxRecDepth 100000 in
set_option maxHeartbeats 4000000 in
theorem r32b1804266_run : asC r32b1804266l (fun S => sndF (bothF FT cp (opR memo1 drecs7) 100000) (.fn 32) r32b1804266x S (fun v S' => asC r32b1804266l2 fun S2 => matchK S r32b1804266v S2 v S')) = some (.bool true, none) := by kernel_rfl
set_option maxRecDepth 100000 in
set_option maxHeartbeats 4000000 in
theorem r1995aa5ec04_run : asC r1995aa5ec04l (fun S => sndF (bothF FT cp (opR memo1 drecs8) 100000) (.fn 199) r1995aa5ec04x S (fun v S' => asC r1995aa5ec04l2 fun S2 => matchK S r1995aa5ec04v S2 v S')) = some (.bool true, none) := by kernel_rfl
end Go.Proofs.YtgpbcnagaelhiaaGreat.Exe
