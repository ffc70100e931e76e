/- Our machine's run of MountNil ends with true: the kernel reckons it. No conditions. -/
import Derived.KernelRfl
import Derived.Test.YtoldaakppnbhjaaGreatProg
import Derived.Test.YtoldaakppnbhjaaGreatYp
namespace Go.Proofs.YtoldaakppnbhjaaGreat.Exe
open Go
noncomputable def FT : PT AF := tabOf Tryz.prog Tryz.prog.funcs.toList 0 .nil
set_option maxRecDepth 100000 in
theorem runMountNil : isTrue ((both FT 1000000).2 6 [] start fun v S => some (v, S)) = true := by kernel_rfl
end Go.Proofs.YtoldaakppnbhjaaGreat.Exe
