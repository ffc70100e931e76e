-- Written by a program of this session (printhand.sh) over the translation; Lean checks it.
import Derived.Test.YtochgkepaleblaaProg
import Derived.Below
import Derived.Deep.Draws
import Derived.Deep.AppendLies
import Derived.Maps.AppendAt
import Derived.OwnWalk
import Derived.Laws.BytesArg
import Derived.Laws.MakeOwn
import Derived.Laws.OwnMore
import Derived.Deep.OwnRows
import Derived.Tactics
import Derived.Lib.ConvBytes
import Derived.Laws.Slices
import Derived.WalkKit
import Derived.KernelRfl
import Derived.RowKit3
import Derived.Deep.LoopGhost
import Derived.Deep.QuietTactic
import Derived.BigQuiet
import Derived.WideLaws
import Derived.Deep.DeepCutAuto
import Derived.Deep.CutBlock
import Derived.Deep.RegionHeld3
import Derived.Laws.Rows
import Derived.Lib.AppendStr
import Derived.ArgAppend
import Derived.Laws.IdiomCopy
import Derived.OrdersHeld
import Derived.Laws.BitsLemmas
import Derived.RowKit
import Derived.Test.YtochgkepaleblaaWWords
import Derived.Test.YtochgkepaleblaaWLast
import Derived.Test.YtochgkepaleblaaWTab
import Derived.Test.YtochgkepaleblaaWFour
import Derived.Test.YtochgkepaleblaaWQPut
import Derived.Test.YtochgkepaleblaaWApart
import Derived.Test.YtochgkepaleblaaWArr
import Derived.Test.YtochgkepaleblaaWZeros
import Derived.Test.YtochgkepaleblaaWFoot
import Derived.Test.YtochgkepaleblaaWKept
import Derived.Test.YtochgkepaleblaaWShare
import Derived.Test.YtochgkepaleblaaWN
import Derived.Test.YtochgkepaleblaaWFootNe
import Derived.Test.YtochgkepaleblaaWAt
import Derived.Test.YtochgkepaleblaaWEqStruct
import Derived.Test.YtochgkepaleblaaWRepsOne
import Derived.Test.YtochgkepaleblaaWInv
import Derived.Test.YtochgkepaleblaaWInvWords
import Derived.Test.YtochgkepaleblaaWGuard
import Derived.Test.YtochgkepaleblaaWNEv
import Derived.Test.YtochgkepaleblaaWMore
namespace Go.Proofs.Ytochgkepaleblaa.Base
open Go.RowKit Go.Proofs.YtochgkepaleblaaW.PrintWords Go.Proofs.YtochgkepaleblaaW.PrintLast Go.Proofs.YtochgkepaleblaaW.PrintMore
attribute [local go_sem] max2_int min2_int max_two min_two max_three min_three max_four min_four   -- for this text's walks alone
set_option linter.unusedVariables false
set_option linter.unusedSimpArgs false



def errW : Option Int → Value
  | none => .nilIface
  | some c => .iface 0 (.int .i64 c)
theorem errW_none : errW none = .nilIface := rfl
theorem errW_some (c : Int) : errW (some c) = .iface 0 (.int .i64 c) := rfl

theorem info5 : (Try.prog.info? 5).map (fun i => (i.zero, i.size, i.bytes)) = some (some (.int .u8 0), 1, 1) := by kernel_rfl
theorem info9 : (Try.prog.info? 9).map (fun i => (i.zero, i.size, i.bytes)) = some (some (.string ⟨#[]⟩), 1, 16) := by kernel_rfl
-- the values' own types

end Go.Proofs.Ytochgkepaleblaa.Base
