/- Runs of the records; the kernel reckons them. No conditions. -/
import Derived.Test.YtgpbcnagaelhiaaGreatRD
namespace Go.Proofs.YtgpbcnagaelhiaaGreat.Exe
open Go Go.Proofs
set_option maxRecDepth 100000 in
set_option maxHeartbeats 4000000 in
theorem r101882fafce_run : asC r101882fafcel (fun S => sndF (bothF FT cp (opR memo1 recs6) 100000) (.fn 101) r101882fafcex S (fun v S' => asC r101882fafcel2 fun S2 => matchK S r101882fafcev S2 v S')) = some (.bool true, none) := by kernel_rfl
set_option maxRecDepth 100000 in
set_option maxHeartbeats 4000000 in
theorem r328276a90f_run : asC r328276a90fl (fun S => sndF (bothF FT cp (opR memo1 drecs0) 100000) (.fn 32) r328276a90fx S (fun v S' => asC r328276a90fl2 fun S2 => matchK S r328276a90fv S2 v S')) = some (.bool true, none) := by kernel_rfl
set_option maxRecDepth 100000 in
set_option maxHeartbeats 4000000 in
theorem r10060096a7a_run : asC r10060096a7al (fun S => sndF (bothF FT cp (opR memo1 drecs1) 100000) (.fn 100) r10060096a7ax S (fun v S' => asC r10060096a7al2 fun S2 => matchK S r10060096a7av S2 v S')) = some (.bool true, none) := by kernel_rfl
set_option maxRecDepth 100000 in
set_option maxHeartbeats 4000000 in
theorem r102e8fe7173_run : asC r102e8fe7173l (fun S => sndF (bothF FT cp (opR memo1 drecs2) 100000) (.fn 102) r102e8fe7173x S (fun v S' => asC r102e8fe7173l2 fun S2 => matchK S r102e8fe7173v S2 v S')) = some (.bool true, none) := by kernel_rfl
set_option maxRecDepth 100000 in
set_option maxHeartbeats 4000000 in
theorem r573de56076_run : asC r573de56076l (fun S => sndF (bothF FT cp (opR memo1 drecs3) 100000) (.fn 57) r573de56076x S (fun v S' => asC r573de56076l2 fun S2 => matchK S r573de56076v S2 v S')) = some (.bool true, none) := by kernel_rfl
set_option maxRecDepth 100000 in
set_option maxHeartbeats 4000000 in
theorem r6103a97f90_run : asC r6103a97f90l (fun S => sndF (bothF FT cp (opR memo1 drecs4) 100000) (.fn 61) r6103a97f90x S (fun v S' => asC r6103a97f90l2 fun S2 => matchK S r6103a97f90v S2 v S')) = some (.bool true, none) := by kernel_rfl
set_option maxRecDepth 100000 in
set_option maxHeartbeats 4000000 in
theorem r56d90b7df8_run : asC r56d90b7df8l (fun S => sndF (bothF FT cp (opR memo1 drecs5) 100000) (.fn 56) r56d90b7df8x S (fun v S' => asC r56d90b7df8l2 fun S2 => matchK S r56d90b7df8v S2 v S')) = some (.bool true, none) := by kernel_rfl
set_option maxRecDepth 100000 in
set_option maxHeartbeats 4000000 in
theorem r3201019bd6_run : asC r3201019bd6l (fun S => sndF (bothF FT cp (opR memo1 drecs6) 100000) (.fn 32) r3201019bd6x S (fun v S' => asC r3201019bd6l2 fun S2 => matchK S r3201019bd6v S2 v S')) = some (.bool true, none) := by kernel_rfl
end Go.Proofs.YtgpbcnagaelhiaaGreat.Exe
