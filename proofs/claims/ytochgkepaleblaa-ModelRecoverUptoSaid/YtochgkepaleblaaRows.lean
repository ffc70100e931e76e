/-
  No cell of these rows narrows 'for every input' (looked for: loops, veiled, ifaces, maps, wideKeys, modest, calm, conditions, laid).
  DERIVED. THE GIVEN ROWS OF THIS SEAT. 5 by the template 'for every input the law returns true; each argument reads behind the call as it read before'; 0 by the template 'total and deterministic' (their statements: YtochgkepaleblaaTotals.lean).
  GIVEN WITH THE SEED: the statements are not yours to turn. If you find one false, say at which input.
  Laid BY PROGRAM, IN A SANDBOX (cutbox-rows.mjs): the forced cells as the released guide's own fill.sh prints them over the translation 72a69ba1b71f8ff7… (all of the seat's roots in one cut). By AI agents, Wed Nov 11 2026. No macro, syntax, notation, axiom, sorry.
-/
import Derived.Test.YtochgkepaleblaaChecked
import GoSem.Claim
import GoSem.ClaimJoined
import GoSem.ClaimMapViews
import Derived.JoinedTies
import Derived.KernelRfl
namespace Go.Proofs.Ytochgkepaleblaa
/- THE CELL 'sum', in the pinned program and in every row, IS THE sha256 OF THE DUMP (.gsa) THAT YtochgkepaleblaaProg.lean LOADS. Nothing in Lean hashes anything: it is a label: what it is worth is what the hold of that sum in a sandbox is worth. -/
noncomputable def Try.pinned : Pinned := { name := "ytochgkepaleblaa", sum := "72a69ba1b71f8ff7610720f26939d51097d043b9b2f8c4142b90f33004dbe407", checked := Try.checked }
namespace Rows
def none {H : Type} : Left H := { results := [], args := [] }

/-- 'undercroftlaw28.ModelRecover': WHATEVER THE INPUT: true; the input reads as it did. -/
def modelRecoverSpec : ChangeSpec := { name := "modelRecover", fn := fun _ => fun
  | [d1, d2] => { results := [.lit (.bool true)], args := [d1, d2] }
  | _ => none }
def modelRecoverRow : OpenClaim := { program := "ytochgkepaleblaa", sum := "72a69ba1b71f8ff7610720f26939d51097d043b9b2f8c4142b90f33004dbe407", func := "undercroft/undercroftlaw28.ModelRecover", spec := "modelRecover", apart := false }
def ModelRecoverSaid : Prop := modelRecoverRow.holds Try.pinned (OpenSpec.ofChange modelRecoverSpec)

/-- ITS FALSE NEIGHBOUR: 'it returns false'. Refute it at one input. -/
def modelRecoverWrong : ChangeSpec := { name := "modelRecover", fn := fun _ => fun
  | [d1, d2] => { results := [.lit (.bool false)], args := [d1, d2] }
  | _ => none }
def ModelRecoverWrongFalsely : Prop := modelRecoverRow.holds Try.pinned (OpenSpec.ofChange modelRecoverWrong)

/-- 'undercroftlaw20.RouteCalls': WHATEVER THE INPUT: true; the input reads as it did. -/
def routeCallsSpec : ChangeSpec := { name := "routeCalls", fn := fun _ => fun
  | [d1, d2] => { results := [.lit (.bool true)], args := [d1, d2] }
  | _ => none }
def routeCallsRow : OpenClaim := { program := "ytochgkepaleblaa", sum := "72a69ba1b71f8ff7610720f26939d51097d043b9b2f8c4142b90f33004dbe407", func := "undercroft/undercroftlaw20.RouteCalls", spec := "routeCalls", inPlace := ["internal/abi.NoEscape", "internal/bytealg.MakeNoZero"], apart := false }
def RouteCallsSaid : Prop := routeCallsRow.holds Try.pinned (OpenSpec.ofChange routeCallsSpec)

/-- ITS FALSE NEIGHBOUR: 'it returns false'. Refute it at one input. -/
def routeCallsWrong : ChangeSpec := { name := "routeCalls", fn := fun _ => fun
  | [d1, d2] => { results := [.lit (.bool false)], args := [d1, d2] }
  | _ => none }
def RouteCallsWrongFalsely : Prop := routeCallsRow.holds Try.pinned (OpenSpec.ofChange routeCallsWrong)

/-- 'undercroftlaw20.RouteBack': WHATEVER THE INPUT: true; the input reads as it did. -/
def routeBackSpec : ChangeSpec := { name := "routeBack", fn := fun _ => fun
  | [d1, d2] => { results := [.lit (.bool true)], args := [d1, d2] }
  | _ => none }
def routeBackRow : OpenClaim := { program := "ytochgkepaleblaa", sum := "72a69ba1b71f8ff7610720f26939d51097d043b9b2f8c4142b90f33004dbe407", func := "undercroft/undercroftlaw20.RouteBack", spec := "routeBack", inPlace := ["internal/abi.NoEscape", "internal/bytealg.MakeNoZero"], apart := false }
def RouteBackSaid : Prop := routeBackRow.holds Try.pinned (OpenSpec.ofChange routeBackSpec)

/-- ITS FALSE NEIGHBOUR: 'it returns false'. Refute it at one input. -/
def routeBackWrong : ChangeSpec := { name := "routeBack", fn := fun _ => fun
  | [d1, d2] => { results := [.lit (.bool false)], args := [d1, d2] }
  | _ => none }
def RouteBackWrongFalsely : Prop := routeBackRow.holds Try.pinned (OpenSpec.ofChange routeBackWrong)

/-- 'undercroftlaw20.RouteNames': WHATEVER THE INPUT: true; the input reads as it did. -/
def routeNamesSpec : ChangeSpec := { name := "routeNames", fn := fun _ => fun
  | [] => { results := [.lit (.bool true)], args := [] }
  | _ => none }
def routeNamesRow : OpenClaim := { program := "ytochgkepaleblaa", sum := "72a69ba1b71f8ff7610720f26939d51097d043b9b2f8c4142b90f33004dbe407", func := "undercroft/undercroftlaw20.RouteNames", spec := "routeNames", inPlace := ["internal/abi.NoEscape", "internal/bytealg.MakeNoZero"], apart := false }
def RouteNamesSaid : Prop := routeNamesRow.holds Try.pinned (OpenSpec.ofChange routeNamesSpec)

/-- ITS FALSE NEIGHBOUR: 'it returns false'. Refute it at one input. -/
def routeNamesWrong : ChangeSpec := { name := "routeNames", fn := fun _ => fun
  | [] => { results := [.lit (.bool false)], args := [] }
  | _ => none }
def RouteNamesWrongFalsely : Prop := routeNamesRow.holds Try.pinned (OpenSpec.ofChange routeNamesWrong)

/-- 'undercroftlaw20.RouteBehind': WHATEVER THE INPUT: true; the input reads as it did. -/
def routeBehindSpec : ChangeSpec := { name := "routeBehind", fn := fun _ => fun
  | [d1, d2] => { results := [.lit (.bool true)], args := [d1, d2] }
  | _ => none }
def routeBehindRow : OpenClaim := { program := "ytochgkepaleblaa", sum := "72a69ba1b71f8ff7610720f26939d51097d043b9b2f8c4142b90f33004dbe407", func := "undercroft/undercroftlaw20.RouteBehind", spec := "routeBehind", inPlace := ["internal/abi.NoEscape", "internal/bytealg.MakeNoZero"], apart := false }
def RouteBehindSaid : Prop := routeBehindRow.holds Try.pinned (OpenSpec.ofChange routeBehindSpec)

/-- ITS FALSE NEIGHBOUR: 'it returns false'. Refute it at one input. -/
def routeBehindWrong : ChangeSpec := { name := "routeBehind", fn := fun _ => fun
  | [d1, d2] => { results := [.lit (.bool false)], args := [d1, d2] }
  | _ => none }
def RouteBehindWrongFalsely : Prop := routeBehindRow.holds Try.pinned (OpenSpec.ofChange routeBehindWrong)

/- THE SECOND FORM. 'bulk': how many values and letters a reading holds, each counted each time it is reached (what is shared counts as often as it is met; a slice's spare places count too). A statement '..UptoSaid' is the law's where the arguments, and the package variables that the reading takes, are together of bulk at most 1048576: NARROWER than '..Said'. Prove '..Said' where nothing that the law and all that it calls make is longer than what came in: it says more and counts as full. Else prove '..UptoSaid'. A law counts once. -/
mutual
def uptoBulk {H : Type} : DataW H → Nat
  | .lit (.string bytes) => bytes.length + 1
  | .lit _ => 1
  | .nil => 1
  | .ptr d => uptoBulk d + 1
  | .slice elems spare => uptoBulkAll elems + uptoBulkAll spare + 1
  | .agg parts => uptoBulkAll parts + 1
  | .iface _ d => uptoBulk d + 1
  | .map entries => uptoBulkEntries entries + 1
  | .held _ => 1
def uptoBulkAll {H : Type} : List (DataW H) → Nat
  | [] => 0
  | d :: r => uptoBulk d + uptoBulkAll r
def uptoBulkEntries {H : Type} : List (Lit × DataW H) → Nat
  | [] => 0
  | x :: r => uptoBulkEntry x + uptoBulkEntries r
def uptoBulkEntry {H : Type} : Lit × DataW H → Nat
  | (.string bytes, d) => bytes.length + uptoBulk d + 1
  | (_, d) => uptoBulk d + 1
 end
def uptoSmall : (H : Type) → List (DataW H) → Bool := fun _ ds => decide (uptoBulkAll ds ≤ 1048576)
def OpenSpec.upto (s : _root_.Go.ChangeSpec) : _root_.Go.OpenSpec := { _root_.Go.OpenSpec.ofChange s with cond := some uptoSmall }

/-- 'undercroftlaw28.ModelRecover', WHERE WHAT IT READS IS OF BULK AT MOST 1048576: true; the input reads as it did. -/
def modelRecoverUptoRow : OpenClaim := { program := "ytochgkepaleblaa", sum := "72a69ba1b71f8ff7610720f26939d51097d043b9b2f8c4142b90f33004dbe407", func := "undercroft/undercroftlaw28.ModelRecover", spec := "modelRecover", apart := false, narrowed := true }
def ModelRecoverUptoSaid : Prop := modelRecoverUptoRow.holds Try.pinned (OpenSpec.upto modelRecoverSpec)

/-- 'undercroftlaw20.RouteCalls', WHERE WHAT IT READS IS OF BULK AT MOST 1048576: true; the input reads as it did. -/
def routeCallsUptoRow : OpenClaim := { program := "ytochgkepaleblaa", sum := "72a69ba1b71f8ff7610720f26939d51097d043b9b2f8c4142b90f33004dbe407", func := "undercroft/undercroftlaw20.RouteCalls", spec := "routeCalls", inPlace := ["internal/abi.NoEscape", "internal/bytealg.MakeNoZero"], apart := false, narrowed := true }
def RouteCallsUptoSaid : Prop := routeCallsUptoRow.holds Try.pinned (OpenSpec.upto routeCallsSpec)

/-- 'undercroftlaw20.RouteBack', WHERE WHAT IT READS IS OF BULK AT MOST 1048576: true; the input reads as it did. -/
def routeBackUptoRow : OpenClaim := { program := "ytochgkepaleblaa", sum := "72a69ba1b71f8ff7610720f26939d51097d043b9b2f8c4142b90f33004dbe407", func := "undercroft/undercroftlaw20.RouteBack", spec := "routeBack", inPlace := ["internal/abi.NoEscape", "internal/bytealg.MakeNoZero"], apart := false, narrowed := true }
def RouteBackUptoSaid : Prop := routeBackUptoRow.holds Try.pinned (OpenSpec.upto routeBackSpec)

/-- 'undercroftlaw20.RouteNames', WHERE WHAT IT READS IS OF BULK AT MOST 1048576: true; the input reads as it did. -/
def routeNamesUptoRow : OpenClaim := { program := "ytochgkepaleblaa", sum := "72a69ba1b71f8ff7610720f26939d51097d043b9b2f8c4142b90f33004dbe407", func := "undercroft/undercroftlaw20.RouteNames", spec := "routeNames", inPlace := ["internal/abi.NoEscape", "internal/bytealg.MakeNoZero"], apart := false, narrowed := true }
def RouteNamesUptoSaid : Prop := routeNamesUptoRow.holds Try.pinned (OpenSpec.upto routeNamesSpec)

/-- 'undercroftlaw20.RouteBehind', WHERE WHAT IT READS IS OF BULK AT MOST 1048576: true; the input reads as it did. -/
def routeBehindUptoRow : OpenClaim := { program := "ytochgkepaleblaa", sum := "72a69ba1b71f8ff7610720f26939d51097d043b9b2f8c4142b90f33004dbe407", func := "undercroft/undercroftlaw20.RouteBehind", spec := "routeBehind", inPlace := ["internal/abi.NoEscape", "internal/bytealg.MakeNoZero"], apart := false, narrowed := true }
def RouteBehindUptoSaid : Prop := routeBehindUptoRow.holds Try.pinned (OpenSpec.upto routeBehindSpec)

end Rows
end Go.Proofs.Ytochgkepaleblaa
