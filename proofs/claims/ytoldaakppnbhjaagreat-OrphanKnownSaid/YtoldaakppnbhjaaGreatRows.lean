/-
  No cell of these rows narrows 'for every input' (looked for: loops, veiled, ifaces, maps, wideKeys, modest, calm, conditions, laid).
  DERIVED. THE GIVEN ROWS OF THIS SEAT. 5 by the template 'for every input the law returns true; each argument reads behind the call as it read before'; 0 by the template 'total and deterministic' (their statements: YtoldaakppnbhjaaGreatTotals.lean).
  GIVEN WITH THE SEED: the statements are not yours to turn. If you find one false, say at which input.
  Laid BY PROGRAM, IN A SANDBOX (cutbox-rows.mjs): the forced cells as the released guide's own fill.sh prints them over the translation 398cddfc6364c321… (all of the seat's roots in one cut). By AI agents, Wed Nov 11 2026. No macro, syntax, notation, axiom, sorry.
-/
import Derived.Test.YtoldaakppnbhjaaGreatChecked
import GoSem.Claim
import GoSem.ClaimJoined
import GoSem.ClaimMapViews
import Derived.JoinedTies
import Derived.KernelRfl
namespace Go.Proofs.YtoldaakppnbhjaaGreat
/- THE CELL 'sum', in the pinned program and in every row, IS THE sha256 OF THE DUMP (.gsa) THAT YtoldaakppnbhjaaGreatProg.lean LOADS. Nothing in Lean hashes anything: it is a label: what it is worth is what the hold of that sum in a sandbox is worth. -/
noncomputable def Tryz.pinned : Pinned := { name := "ytoldaakppnbhjaagreat", sum := "398cddfc6364c321ea8af3d3c761badb08c9406acc6b15f3b873f5cbd3e3e122", checked := Tryz.checked }
namespace Rows
def none {H : Type} : Left H := { results := [], args := [] }

/-- 'undercroftlaw22.OrphanNone': WHATEVER THE INPUT: true; the input reads as it did. -/
def orphanNoneSpec : ChangeSpec := { name := "orphanNone", fn := fun _ => fun
  | [d] => { results := [.lit (.bool true)], args := [d] }
  | _ => none }
def orphanNoneRow : OpenClaim := { program := "ytoldaakppnbhjaagreat", sum := "398cddfc6364c321ea8af3d3c761badb08c9406acc6b15f3b873f5cbd3e3e122", func := "undercroft/undercroftlaw22.OrphanNone", spec := "orphanNone", unfollowed := true, recurses := true, apart := false }
def OrphanNoneSaid : Prop := orphanNoneRow.holds Tryz.pinned (OpenSpec.ofChange orphanNoneSpec)

/-- ITS FALSE NEIGHBOUR: 'it returns false'. Refute it at one input. -/
def orphanNoneWrong : ChangeSpec := { name := "orphanNone", fn := fun _ => fun
  | [d] => { results := [.lit (.bool false)], args := [d] }
  | _ => none }
def OrphanNoneWrongFalsely : Prop := orphanNoneRow.holds Tryz.pinned (OpenSpec.ofChange orphanNoneWrong)

/-- 'undercroftlaw22.OrphanKnown': WHATEVER THE INPUT: true; the input reads as it did. -/
def orphanKnownSpec : ChangeSpec := { name := "orphanKnown", fn := fun _ => fun
  | [] => { results := [.lit (.bool true)], args := [] }
  | _ => none }
def orphanKnownRow : OpenClaim := { program := "ytoldaakppnbhjaagreat", sum := "398cddfc6364c321ea8af3d3c761badb08c9406acc6b15f3b873f5cbd3e3e122", func := "undercroft/undercroftlaw22.OrphanKnown", spec := "orphanKnown", unfollowed := true, recurses := true, apart := false }
def OrphanKnownSaid : Prop := orphanKnownRow.holds Tryz.pinned (OpenSpec.ofChange orphanKnownSpec)

/-- ITS FALSE NEIGHBOUR: 'it returns false'. Refute it at one input. -/
def orphanKnownWrong : ChangeSpec := { name := "orphanKnown", fn := fun _ => fun
  | [] => { results := [.lit (.bool false)], args := [] }
  | _ => none }
def OrphanKnownWrongFalsely : Prop := orphanKnownRow.holds Tryz.pinned (OpenSpec.ofChange orphanKnownWrong)

/-- 'undercroftlaw24.MountHead': WHATEVER THE INPUT: true; the input reads as it did. -/
def mountHeadSpec : ChangeSpec := { name := "mountHead", fn := fun _ => fun
  | [] => { results := [.lit (.bool true)], args := [] }
  | _ => none }
def mountHeadRow : OpenClaim := { program := "ytoldaakppnbhjaagreat", sum := "398cddfc6364c321ea8af3d3c761badb08c9406acc6b15f3b873f5cbd3e3e122", func := "undercroft/undercroftlaw24.MountHead", spec := "mountHead", unfollowed := true, recurses := true, apart := false }
def MountHeadSaid : Prop := mountHeadRow.holds Tryz.pinned (OpenSpec.ofChange mountHeadSpec)

/-- ITS FALSE NEIGHBOUR: 'it returns false'. Refute it at one input. -/
def mountHeadWrong : ChangeSpec := { name := "mountHead", fn := fun _ => fun
  | [] => { results := [.lit (.bool false)], args := [] }
  | _ => none }
def MountHeadWrongFalsely : Prop := mountHeadRow.holds Tryz.pinned (OpenSpec.ofChange mountHeadWrong)

/-- 'undercroftlaw24.MountNil': WHATEVER THE INPUT: true; the input reads as it did. -/
def mountNilSpec : ChangeSpec := { name := "mountNil", fn := fun _ => fun
  | [] => { results := [.lit (.bool true)], args := [] }
  | _ => none }
def mountNilRow : OpenClaim := { program := "ytoldaakppnbhjaagreat", sum := "398cddfc6364c321ea8af3d3c761badb08c9406acc6b15f3b873f5cbd3e3e122", func := "undercroft/undercroftlaw24.MountNil", spec := "mountNil", unfollowed := true, recurses := true, apart := false }
def MountNilSaid : Prop := mountNilRow.holds Tryz.pinned (OpenSpec.ofChange mountNilSpec)

/-- ITS FALSE NEIGHBOUR: 'it returns false'. Refute it at one input. -/
def mountNilWrong : ChangeSpec := { name := "mountNil", fn := fun _ => fun
  | [] => { results := [.lit (.bool false)], args := [] }
  | _ => none }
def MountNilWrongFalsely : Prop := mountNilRow.holds Tryz.pinned (OpenSpec.ofChange mountNilWrong)

/-- 'undercroftlaw24.MountNames': WHATEVER THE INPUT: true; the input reads as it did. -/
def mountNamesSpec : ChangeSpec := { name := "mountNames", fn := fun _ => fun
  | [] => { results := [.lit (.bool true)], args := [] }
  | _ => none }
def mountNamesRow : OpenClaim := { program := "ytoldaakppnbhjaagreat", sum := "398cddfc6364c321ea8af3d3c761badb08c9406acc6b15f3b873f5cbd3e3e122", func := "undercroft/undercroftlaw24.MountNames", spec := "mountNames", unfollowed := true, recurses := true, apart := false }
def MountNamesSaid : Prop := mountNamesRow.holds Tryz.pinned (OpenSpec.ofChange mountNamesSpec)

/-- ITS FALSE NEIGHBOUR: 'it returns false'. Refute it at one input. -/
def mountNamesWrong : ChangeSpec := { name := "mountNames", fn := fun _ => fun
  | [] => { results := [.lit (.bool false)], args := [] }
  | _ => none }
def MountNamesWrongFalsely : Prop := mountNamesRow.holds Tryz.pinned (OpenSpec.ofChange mountNamesWrong)

/- THE SECOND FORM. 'bulk': how many values and letters a reading holds, each counted each time it is reached (what is shared counts as often as it is met; a slice's spare places count too). A statement '..UptoSaid' is the law's where the arguments, and the package variables that the reading takes, are together of bulk at most 1048576: NARROWER than '..Said'. Prove '..Said' where nothing that the law and all that it calls make is longer than what came in: it says more and counts as full. Else prove '..UptoSaid'. A law counts once. -/
mutual
def uptoBulk {H : Type} : DataW H → Nat
  | .lit (.string bytes) => bytes.length + 1
  | .lit _ => 1
  | .nil => 1
  | .ptr d => uptoBulk d + 1
  | .slice elems spare => uptoBulkAll elems + uptoBulkAll spare + 1
  | .agg parts => uptoBulkAll parts + 1
  | .iface _ d => uptoBulk d + 1
  | .map entries => uptoBulkEntries entries + 1
  | .held _ => 1
def uptoBulkAll {H : Type} : List (DataW H) → Nat
  | [] => 0
  | d :: r => uptoBulk d + uptoBulkAll r
def uptoBulkEntries {H : Type} : List (Lit × DataW H) → Nat
  | [] => 0
  | x :: r => uptoBulkEntry x + uptoBulkEntries r
def uptoBulkEntry {H : Type} : Lit × DataW H → Nat
  | (.string bytes, d) => bytes.length + uptoBulk d + 1
  | (_, d) => uptoBulk d + 1
 end
def uptoSmall : (H : Type) → List (DataW H) → Bool := fun _ ds => decide (uptoBulkAll ds ≤ 1048576)
def OpenSpec.upto (s : _root_.Go.ChangeSpec) : _root_.Go.OpenSpec := { _root_.Go.OpenSpec.ofChange s with cond := some uptoSmall }

/-- 'undercroftlaw22.OrphanNone', WHERE WHAT IT READS IS OF BULK AT MOST 1048576: true; the input reads as it did. -/
def orphanNoneUptoRow : OpenClaim := { program := "ytoldaakppnbhjaagreat", sum := "398cddfc6364c321ea8af3d3c761badb08c9406acc6b15f3b873f5cbd3e3e122", func := "undercroft/undercroftlaw22.OrphanNone", spec := "orphanNone", unfollowed := true, recurses := true, apart := false, narrowed := true }
def OrphanNoneUptoSaid : Prop := orphanNoneUptoRow.holds Tryz.pinned (OpenSpec.upto orphanNoneSpec)

/-- 'undercroftlaw22.OrphanKnown', WHERE WHAT IT READS IS OF BULK AT MOST 1048576: true; the input reads as it did. -/
def orphanKnownUptoRow : OpenClaim := { program := "ytoldaakppnbhjaagreat", sum := "398cddfc6364c321ea8af3d3c761badb08c9406acc6b15f3b873f5cbd3e3e122", func := "undercroft/undercroftlaw22.OrphanKnown", spec := "orphanKnown", unfollowed := true, recurses := true, apart := false, narrowed := true }
def OrphanKnownUptoSaid : Prop := orphanKnownUptoRow.holds Tryz.pinned (OpenSpec.upto orphanKnownSpec)

/-- 'undercroftlaw24.MountHead', WHERE WHAT IT READS IS OF BULK AT MOST 1048576: true; the input reads as it did. -/
def mountHeadUptoRow : OpenClaim := { program := "ytoldaakppnbhjaagreat", sum := "398cddfc6364c321ea8af3d3c761badb08c9406acc6b15f3b873f5cbd3e3e122", func := "undercroft/undercroftlaw24.MountHead", spec := "mountHead", unfollowed := true, recurses := true, apart := false, narrowed := true }
def MountHeadUptoSaid : Prop := mountHeadUptoRow.holds Tryz.pinned (OpenSpec.upto mountHeadSpec)

/-- 'undercroftlaw24.MountNil', WHERE WHAT IT READS IS OF BULK AT MOST 1048576: true; the input reads as it did. -/
def mountNilUptoRow : OpenClaim := { program := "ytoldaakppnbhjaagreat", sum := "398cddfc6364c321ea8af3d3c761badb08c9406acc6b15f3b873f5cbd3e3e122", func := "undercroft/undercroftlaw24.MountNil", spec := "mountNil", unfollowed := true, recurses := true, apart := false, narrowed := true }
def MountNilUptoSaid : Prop := mountNilUptoRow.holds Tryz.pinned (OpenSpec.upto mountNilSpec)

/-- 'undercroftlaw24.MountNames', WHERE WHAT IT READS IS OF BULK AT MOST 1048576: true; the input reads as it did. -/
def mountNamesUptoRow : OpenClaim := { program := "ytoldaakppnbhjaagreat", sum := "398cddfc6364c321ea8af3d3c761badb08c9406acc6b15f3b873f5cbd3e3e122", func := "undercroft/undercroftlaw24.MountNames", spec := "mountNames", unfollowed := true, recurses := true, apart := false, narrowed := true }
def MountNamesUptoSaid : Prop := mountNamesUptoRow.holds Tryz.pinned (OpenSpec.upto mountNamesSpec)

end Rows
end Go.Proofs.YtoldaakppnbhjaaGreat
