/- A part of the machine that reckons a closed run, and of the proof that what it says the given program does. No conditions. -/
import Derived.Test.YtpochibfjpanhaaGreatYq
import Derived.Test.YtpochibfjpanhaaGreatZn
set_option linter.unusedVariables false
set_option linter.unusedSimpArgs false
namespace Go.Proofs.YtpochibfjpanhaaGreat.Exe
open Go

/-! ### A contract of a call in a state of ours: what the machine says it comes to -/
section
variable {P : Program} {tab : Opt} (hX : OptOK P tab) (hM : MemoOK P tab.memo) (hm : P.follows .mixedOrders = true) (hN : NamesOk P)
include hX hM hm hN
/-- A call in a world that a state of ours describes: what it comes to, but for the numbers of new blocks. -/
theorem exec_at {g : FuncId} {n : Nat} {base w : World} {ρ : Rho} {S S2 : AS} {xs : List AV} {us : List Value} {v0 : AV} (hw : WRel base ρ S w) (hl : DenL ρ xs us)
    (h : sndF (bothF (tabOf P P.funcs.toList 0 .nil) (comp P true) tab n) (.fn g) xs S (fun v S' => matchK S v0 S2 v S') = some (.bool true, none)) :
    Calls P g us.toArray w fun e w' => ∃ ρ2 u, e = .returned u ∧ ρ.le ρ2 ∧ Keep ρ ρ2 S S2 ∧ WRel base ρ2 S2 w' ∧ Den ρ2 v0 u := by
  rw [sndF_eq] at h
  refine callsIn_wide.1 ((both_ok hX hM tabOf_ok hm hN n).2 base ρ S w (.fn g) xs us _ _ (fun e w' => ∃ ρ2 u, e = .returned u ∧ ρ.le ρ2 ∧ Keep ρ ρ2 S S2 ∧ WRel base ρ2 S2 w' ∧ Den ρ2 v0 u) hw hl h fun v S' ρ' w' u g1 g2 g3 g4 g5 => ?_).1
  obtain ⟨ms, hms⟩ := matchK_some g1
  obtain ⟨ρ2, r1, r2, r3, r4⟩ := match_ok hw hms g2 g3 g4 g5
  exact ⟨ρ2, u, rfl, r1, r2, r3, r4⟩
/-- A piece of code in a frame that a table of ours describes: what the machine says of it, it does. For pieces of a walk by hand. -/
theorem code_at {m n N : Nat} {base w : World} {ρ : Rho} {S : AS} {t : T} {a : Act} {k : KX} {z : AV × Option AS} {Q : Exit → Act → World → Prop} (hn : n ≤ N) (c : Code) (hr : RelA base ρ S w t a N)
    (h : runA (comp P false n c) (both (tabOf P P.funcs.toList 0 .nil) (comp P true) tab m).2 (both (tabOf P P.funcs.toList 0 .nil) (comp P true) tab m).1 t S k = some z) (hq : Outs base ρ S k z N Q) : c.wp P Q a w :=
  wpIn_wide.1 (code_wp (ro := none) (rd := false) hm hN (both_ok hX hM tabOf_ok hm hN m).2 (both_ok hX hM tabOf_ok hm hN m).1 (.inl rfl) hn c ρ S w t a k Q hr h hq)
end
end Go.Proofs.YtpochibfjpanhaaGreat.Exe
