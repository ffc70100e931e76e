/- Our machine's run of MountHead ends with true: the kernel reckons it. No conditions. -/
import Derived.KernelRfl
import Derived.Test.YtoldaakppnbhjaaGreatProg
import Derived.Test.YtoldaakppnbhjaaGreatYp
namespace Go.Proofs.YtoldaakppnbhjaaGreat.Exe
open Go
noncomputable def FT : PT AF := tabOf Tryz.prog Tryz.prog.funcs.toList 0 .nil
set_option maxRecDepth 100000 in
theorem runMountHead : sndK (both FT 1000000) 5 [] start fin = some (.bool true, start) := by kernel_rfl
end Go.Proofs.YtoldaakppnbhjaaGreat.Exe
