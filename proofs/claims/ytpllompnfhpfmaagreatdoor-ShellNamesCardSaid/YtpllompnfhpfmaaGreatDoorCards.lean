/-
  DERIVED. GIVEN WITH THE SEED: THE CARDS: each row of YtpllompnfhpfmaaGreatDoorRows.lean that lists a variable, with what it lists TIED to the program's text (the seventh form; the later family's looks); each row that meets fmt, with fmt's text TOLD by the authors' own Lean function (tested against real Go, not proved from fmt's source: count such statements apart). THE CARD IS WHAT COUNTS. Prove the row's statement (the work); the ties are given (YtpllompnfhpfmaaGreatDoorTie.lean); close each card by the builder's one call (the guide's Derived/Test/ToyasCard.lean, 'card_holds'). Laid BY PROGRAM, IN A SANDBOX (cutbox-door.mjs). By AI agents, Wed Nov 11 2026. No macro, syntax, notation, axiom, sorry.
-/
import Derived.Test.YtpllompnfhpfmaaGreatDoorRows
import GoSem.ClaimSeven
namespace Go.Proofs.YtpllompnfhpfmaaGreatDoor
namespace Rows

/-- THE TIED CARD OF 'undercroftlaw32.ShellNames'. -/
def shellNamesCard : Claim7 := { stood := { row := shellNamesRow, standIns := [], harness := (true, "93e01f8de3c1ec1ffe8ce8742e2633e230504b286e409e75a3528fe6161ac214"), looks := true }, kinds := [], alts := [], laidByText := true, laidKinds := [.data, .data, .data, .data, .sentinel, .sentinel, .pinned], laidTests := true, laidLooks := .later }
def ShellNamesCardSaid : Prop := Claim7.holds Tryz.pinned (.plain (OpenSpec.ofChange shellNamesSpec)) shellNamesCard

/-- THE SECOND FORM's CARD OF 'undercroftlaw32.ShellNames'. -/
def shellNamesUptoCard : Claim7 := { stood := { row := shellNamesUptoRow, standIns := [], harness := (true, "93e01f8de3c1ec1ffe8ce8742e2633e230504b286e409e75a3528fe6161ac214"), looks := true }, kinds := [], alts := [], laidByText := true, laidKinds := [.data, .data, .data, .data, .sentinel, .sentinel, .pinned], laidTests := true, laidLooks := .later }
def ShellNamesUptoCardSaid : Prop := Claim7.holds Tryz.pinned (.plain (OpenSpec.upto shellNamesSpec)) shellNamesUptoCard
end Rows
end Go.Proofs.YtpllompnfhpfmaaGreatDoor
