/- By hand: route.Join by strings.Join's contract off the shelf. -/
import Derived.Test.YtochgkepaleblaaShelf
import Derived.Test.YtochgkepaleblaaWWords
import Derived.Test.YtochgkepaleblaaWMore
import Derived.Test.YtochgkepaleblaaWLast
import Derived.Below
import Derived.OwnWalk
import Derived.Tactics
import Derived.WalkKit
import Derived.KernelRfl
import Derived.RowKit

set_option linter.unusedVariables false
set_option linter.unusedSimpArgs false
namespace Go.Proofs.Ytochgkepaleblaa.Hand
open Go.RowKit Go.Proofs.YtochgkepaleblaaW.PrintWords Go.Proofs.YtochgkepaleblaaW.PrintLast Go.Proofs.YtochgkepaleblaaW.PrintMore

/-- The names put together with strokes between. -/
def joined (l0 : List ByteArray) : ByteArray := ⟨(Lib.join (l0.map (·.data.toList)) [47]).toArray⟩
def route_Join.f (l0 : List ByteArray) : Option ByteArray :=
  if l0.length = 0 then some (⟨#[47]⟩ : ByteArray)
  else if (joined l0).size ≤ 140737488355328 ∧ l0.length ≤ 140737488355328 then some ((⟨#[47]⟩ : ByteArray) ++ joined l0) else none

theorem reads_cells {A : Option Addr} {l : List ByteArray} {w : World} (h : Kd.C Kd.string w A l.length l) (hl : 0 < l.length) :
    ∃ bk o, A = some ⟨bk, o, none⟩ ∧ (∀ (j : Nat) x, l[j]? = some x → w.cell? ⟨bk, o + j, none⟩ = some (.string x)) ∧ bk < w.heap.size := by
  obtain ⟨_, _, h3⟩ := h
  obtain ⟨ad, rfl, hc⟩ := h3 hl
  have key : ∀ (j : Nat) x, l[j]? = some x → w.cell? (ad.add j) = some (.string x) := by
    intro j x hj
    obtain ⟨c, hcl, hR, hcell⟩ := hc j x hj
    have hR' : c = [Value.string x] := hR
    subst hR'
    have := hcell 0 (.string x) rfl
    simpa [Kd.string, Kd.scalar] using this
  have h0 := key 0 _ (List.getElem?_eq_getElem hl)
  obtain ⟨bk, o, sp⟩ := ad
  have hsp : sp = none := by simpa [Addr.add] using World.cell?_spot h0
  subst hsp
  refine ⟨bk, o, rfl, ?_, ?_⟩
  · intro j x hj
    have := key j x hj
    cases j with
    | zero => simpa [Addr.add] using this
    | succ j => simpa [Addr.add] using this
  · simpa [Addr.add] using World.block_lt_of_cell? w _ h0

set_option maxHeartbeats 2000000 in
set_option maxRecDepth 100000 in
theorem route_Join.calls (A0 : Option Addr) (c0 : Nat) (l0 : List ByteArray) (r : ByteArray) (w : World) (hr0 : Kd.C Kd.string w A0 l0.length l0) (hc0 : l0.length ≤ c0) (h : route_Join.f l0 = some r) :
    Calls Try.prog 18 #[.slice A0 l0.length c0] w fun e w' => e = .returned (.string r) ∧ Below w.heap.size w w' := by
  unfold route_Join.f at h
  by_cases h0 : l0.length = 0
  · rw [if_pos h0] at h
    obtain rfl := Option.some.inj h
    have hb : ((l0.length : Int) == 0) = true := by rw [beq_iff_eq]; omega
    clear hr0 hc0 h h0
    go_enter Try.func18, Try.ntmps18
    go_wp2
    go_ret
    exact ⟨rfl, Below.refl _ _⟩
  · rw [if_neg h0] at h
    by_cases h1 : (joined l0).size ≤ 140737488355328 ∧ l0.length ≤ 140737488355328
    · rw [if_pos h1] at h
      obtain rfl := Option.some.inj h
      obtain ⟨bk, o, rfl, hcells, hbk⟩ := reads_cells hr0 (by omega)
      have hb : ((l0.length : Int) == 0) = false := by rw [beq_eq_false_iff_ne]; omega
      have hlen : (Lib.join (l0.map (·.data.toList)) (⟨#[47]⟩ : ByteArray).data.toList).length ≤ 140737488355328 := h1.1
      have HJ := Try.strings_Join bk o c0 l0 ⟨#[47]⟩ w hcells hbk h1.2 hc0 hlen
      have hsz : 1 + (joined l0).size ≤ 9223372036854775807 := by have := h1.1; omega
      have HJ' : Calls Try.prog 42 #[.slice (some ⟨bk, o, none⟩) l0.length c0, .string ⟨#[47]⟩] w fun e w' => e = .returned (.string (joined l0)) ∧ Below w.heap.size w w' := HJ
      generalize joined l0 = jj at HJ' hsz
      have HH := Aside0.mk HJ'
      clear hr0 hc0 h h0 h1 hcells hlen HJ HJ'
      go_enter Try.func18, Try.ntmps18
      go_wp2_with fail
      refine HH.out.mono ?_
      rintro e w' ⟨rfl, hbel⟩
      go_wp2
      go_ret
      exact ⟨rfl, hbel⟩
    · rw [if_neg h1] at h
      exact absurd h (by simp)
end Go.Proofs.Ytochgkepaleblaa.Hand
