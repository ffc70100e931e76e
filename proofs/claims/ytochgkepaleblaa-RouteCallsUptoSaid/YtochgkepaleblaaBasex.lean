-- Written by a program of this session (printhand.sh) over the translation; Lean checks it.
import Derived.Test.YtochgkepaleblaaBasex0
import Derived.Test.YtochgkepaleblaaBasex1
import Derived.Test.YtochgkepaleblaaBasex2
import Derived.Test.YtochgkepaleblaaBasex3
namespace Go.Proofs.Ytochgkepaleblaa.Base
open Go.RowKit Go.Proofs.YtochgkepaleblaaW.PrintWords Go.Proofs.YtochgkepaleblaaW.PrintLast Go.Proofs.YtochgkepaleblaaW.PrintMore
attribute [local go_sem] max2_int min2_int max_two min_two max_three min_three max_four min_four   -- for this text's walks alone
set_option linter.unusedVariables false
set_option linter.unusedSimpArgs false

end Go.Proofs.Ytochgkepaleblaa.Base
