/- No go statement stands in the program: the cell goes. No conditions. -/
import Derived.Test.YtpllompnfhpfmaaGreatDoorCards
import Derived.Test.YtpllompnfhpfmaaGreatDoorTie
import Derived.SevenTiedAt
import Derived.KernelRfl
namespace Go.Proofs.YtpllompnfhpfmaaGreatDoor.shellNames
open Go Go.Proofs
theorem nogo : (Tryz.prog.funcs.toList.any Func.goes) = false := by kernel_rfl
theorem goes_none {P : Program} (h : (P.funcs.toList.any Func.goes) = false) (f : FuncId) : P.goes f = false := by
  have key : ∀ g : Nat, (P.funcs[g]?).any Func.goes = false := fun g => by
    cases e : P.funcs[g]? with
    | none => rfl
    | some fn =>
      have hm : fn ∈ P.funcs.toList := List.mem_of_getElem? (by rw [Array.getElem?_toList]; exact e)
      have := List.any_eq_false.1 h fn hm
      simpa using this
  unfold Program.goes
  rw [Bool.or_eq_false_iff, List.any_eq_false]
  refine ⟨fun g _ => by simp [key g], ?_⟩
  have : P.funcs.any Func.goes = false := by rw [← Array.any_toList]; exact h
  rw [this, Bool.and_false]
theorem goes : false = Rows.shellNamesRow.goesBy Tryz.prog := by
  show false = Tryz.prog.goesAt .entering "undercroft/undercroftlaw32.ShellNames"
  unfold Program.goesAt Program.goesFrom
  cases Tryz.prog.funcNamed "undercroft/undercroftlaw32.ShellNames" with
  | none => rfl
  | some f => simp [goes_none nogo f]
end Go.Proofs.YtpllompnfhpfmaaGreatDoor.shellNames
