/- ShellNames holds, as a tied card: the call returns true; the variables that it reads hold what the program's text lays. No conditions. -/
import Derived.Test.YtpllompnfhpfmaaGreatDoorLawShellNames
import Derived.Test.YtpllompnfhpfmaaGreatDoorCards
import Derived.Test.YtpllompnfhpfmaaGreatDoorTie
import Derived.Test.YtpllompnfhpfmaaGreatDoorGoes
import Derived.SevenTiedAt
namespace Go.Proofs.YtpllompnfhpfmaaGreatDoor
open Go
theorem shellNamesCard_holds : Rows.ShellNamesCardSaid :=
  Claim7.holds_tied_plain_at .later [] [.data, .data, .data, .data, .sentinel, .sentinel, .pinned] true (true, "93e01f8de3c1ec1ffe8ce8742e2633e230504b286e409e75a3528fe6161ac214") true
    shellNames.over (fun _ h => by cases h) (by kernel_rfl) (fun _ h => by cases h) shellNames_row_tie rfl ⟨rfl, rfl⟩ (by kernel_rfl) rfl
    (fun f fn hf hfn => by
      obtain rfl : f = 3 := Option.some.inj ((show Tryz.prog.funcNamed "undercroft/undercroftlaw32.ShellNames" = some 3 by kernel_rfl).symm.trans hf) |>.symm
      obtain rfl : fn = Tryz.f3 := (Option.some.inj (Tryz.func3.symm.trans hfn)).symm
      exact ⟨by kernel_rfl, fun j t ht => by
        rw [Tryz.params3] at ht
        simp at ht⟩)
    shellNames.goes
#print axioms shellNamesCard_holds
end Go.Proofs.YtpllompnfhpfmaaGreatDoor
