/- A part of the machine that reckons a closed run, and of the proof that what it says the given program does. No conditions. -/
import Derived.Test.YtpochibfjpanhaaGreatYp
import Derived.Test.YtpochibfjpanhaaGreatXh
import Derived.WideShapes
set_option linter.unusedVariables false
set_option linter.unusedSimpArgs false
namespace Go.Proofs.YtpochibfjpanhaaGreat.Exe
open Go
variable {P : Program}

/-! ### The same of the machine that the kernel runs -/
section
variable {tab : Opt} (hX : OptOK P tab) (hM : MemoOK P tab.memo) (hm : P.follows .mixedOrders = true) (hN : NamesOk P)
include hX hM hm hN
theorem execF_args {g : FuncId} {n : Nat} {xs : List AV} {us : List Value} (hx : DenL (fun _ => none) xs us) (h : sndF (bothF (tabOf P P.funcs.toList 0 .nil) (comp P true) tab n) (.fn g) xs start fin = some (.bool true, none)) (w : World) :
    Calls P g us.toArray w fun e w' => (e = .returned (.bool true)) ∧ (∀ r, r < w.heap.size → w'.heap[r]? = w.heap[r]?) ∧ w.heap.size ≤ w'.heap.size ∧ w'.os = w.os ∧ w'.output = w.output ∧ w'.tape = w.tape :=
  exec_args (n := n) hX hM hm hN hx (by rw [← sndF_eq]; exact h) w
theorem execF {g : FuncId} {n : Nat} (h : sndF (bothF (tabOf P P.funcs.toList 0 .nil) (comp P true) tab n) (.fn g) [] start fin = some (.bool true, none)) (w : World) :
    Calls P g #[] w fun e w' => (e = .returned (.bool true)) ∧ (∀ r, r < w.heap.size → w'.heap[r]? = w.heap[r]?) ∧ w.heap.size ≤ w'.heap.size ∧ w'.os = w.os ∧ w'.output = w.output ∧ w'.tape = w.tape :=
  exec (n := n) hX hM hm hN (by rw [← sndF_eq]; exact h) w
theorem execF_memo {g : FuncId} {n : Nat} {xs : List AV} {v : AV} (hp : pureL (v :: xs) = true) (h : sndF (bothF (tabOf P P.funcs.toList 0 .nil) (comp P true) tab n) (.fn g) xs start (pin v) = some (.bool true, none)) : MemoOK P ((g, xs, v) :: tab.memo) :=
  exec_memo (n := n) hX hM hm hN hp (by rw [← sndF_eq]; exact h)
end

/-! ### What is handed in and not looked at -/
theorem okWide_one {w : World} {r : Reach} {base : Nat} {t : TypeId} {v : Value} (h : Cell.okWide P w r base t v) : v.cells = #[v] ∧ v.oneCell' = true := by
  cases v <;> first | exact ⟨rfl, rfl⟩ | skip
  all_goals
    exfalso
    unfold Cell.okWide at h
    split at h <;> first | contradiction | skip
    unfold Cell.ok at h
    split at h <;> first | contradiction | exact h
theorem anyCells {ρ : Rho} : ∀ us : List Value, (∀ v ∈ us, v.cells = #[v] ∧ v.oneCell' = true) → Cells ρ (List.replicate us.length .any) us
  | [], _ => .nil
  | v :: us, h => .one rfl (.any (h v List.mem_cons_self).1 (h v List.mem_cons_self).2) (anyCells us fun x hx => h x (List.mem_cons_of_mem _ hx))
theorem struct_any {w : World} {r : Reach} {base : Nat} {t : TypeId} {v : Value} {fs : Array Field} (hu : P.underlying t = some (.struct fs)) (h : Value.okWide P w r base t v) : ∃ cs, v = .agg cs ∧ Cells (fun _ => none) (List.replicate (P.cellsOf t) .any) cs.toList := by
  simp only [Value.okWide, hu] at h
  obtain ⟨cs, rfl, h2, ts, _, _, h3⟩ := h
  refine ⟨cs, rfl, ?_⟩
  rw [← h2, ← Array.length_toList]
  refine anyCells cs.toList fun v hv => ?_
  obtain ⟨i, hi⟩ := List.mem_iff_getElem?.1 hv
  obtain ⟨u, _, hc⟩ := h3 i v (by rw [← Array.getElem?_toList]; exact hi)
  exact okWide_one hc
end Go.Proofs.YtpochibfjpanhaaGreat.Exe
