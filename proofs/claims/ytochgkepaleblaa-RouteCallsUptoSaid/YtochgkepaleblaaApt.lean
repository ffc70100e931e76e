/- ApartTexts over two lists that lie apart. -/
import Derived.Test.YtochgkepaleblaaApart
set_option linter.unusedVariables false
set_option linter.unusedSimpArgs false
namespace Go.Proofs.Ytochgkepaleblaa.Apart
open Go.RowKit Go.Proofs.Ytochgkepaleblaa.Base Go.Proofs.YtochgkepaleblaaW.PrintWords Go.Proofs.YtochgkepaleblaaW.PrintLast Go.Proofs.YtochgkepaleblaaW.PrintMore

/-- Two lists that lie apart, their headers in a fresh block. -/
theorem apart_two {w W : World} {N g : Nat} {ok1 ok2 : Nat → Prop} {v1 v2 : Value} {X1 X2 : List ByteArray} (h1 : Kd.R Kd.string 9 W N ok1 v1 X1) (h2 : Kd.R Kd.string 9 W N ok2 v2 X2) (hne : ∀ k, ok1 k → some k ≠ v2.ownBlock)
    (hB : Below N w W) (hN : N ≤ w.heap.size) (hg : g = W.heap.size) (hs : X1.length ≤ 1000000 ∧ X2.length ≤ 1000000) (c : Nat) :
    Calls Try.prog 26 #[.slice (some ⟨g, 0, none⟩) 2 c] (W.alloc (.cells #[v1, v2] 34)) fun e w' => e = .returned (.bool true) ∧ Below N w w' := by
  subst hg
  have hNW : N ≤ W.heap.size := Nat.le_trans hN hB.size
  have hb : Below W.heap.size W (W.alloc (.cells #[v1, v2] 34)) := (Below.refl _ _).alloc (Nat.le_refl _) _
  have hnw : (W.alloc (.cells #[v1, v2] 34)).heap[W.heap.size]? = some (.cells #[v1, v2] 34) := by show (W.heap.push _)[W.heap.size]? = _; simp
  have hnew : ∀ k, v1.ownBlock = some k ∨ v2.ownBlock = some k → k < W.heap.size := by
    intro k hk
    rcases hk with hk | hk
    · exact own_lt (Kd.own_of_R (enc := Value.string) (h1 := fun _ => rfl) (ok := ok1) h1) k hk
    · exact own_lt (Kd.own_of_R (enc := Value.string) (h1 := fun _ => rfl) (ok := ok2) h2) k hk
  refine (apart (W.alloc (.cells #[v1, v2] 34)) N W.heap.size 2 c (fun j => if j = 0 then v1 else v2) (fun j => if j = 0 then X1 else X2) (by have := hb.size; omega) (by decide) ?_ ?_).mono ?_
  · intro j _
    show (if _ then _ else _ : List ByteArray).length ≤ _
    split
    · exact hs.1
    · exact hs.2
  · refine ⟨hNW, ?_, ?_, ?_, ?_⟩
    · intro j hj
      rcases j with _ | _ | j
      · simp only [World.cell?, hnw]; rfl
      · simp only [World.cell?, hnw]; rfl
      · omega
    · intro j hj
      rcases j with _ | _ | j
      · exact Kd.R_mono (Kd.R_below h1 hb) (fun _ _ => trivial)
      · exact Kd.R_mono (Kd.R_below h2 hb) (fun _ _ => trivial)
      · omega
    · intro i j hi hj hij k hk
      have hne' : ∀ k, v1.ownBlock = some k → v2.ownBlock ≠ some k := fun k hk => fun e => hne k (h1.1 k hk) e.symm
      rcases i with _ | _ | i <;> rcases j with _ | _ | j <;> first | omega | skip
      · exact hne' k hk
      · exact fun e => hne' k e hk
    · intro j hj e
      have : W.heap.size < W.heap.size := by
        rcases j with _ | _ | j
        · exact hnew _ (.inl e)
        · exact hnew _ (.inr e)
        · omega
      omega
  · rintro e w' ⟨rfl, hb'⟩
    exact ⟨rfl, hB.trans (((Below.refl N W).alloc hNW _).trans hb')⟩
end Go.Proofs.Ytochgkepaleblaa.Apart
namespace Go.Proofs.Ytochgkepaleblaa.Hand
def undercroftkit_ApartTexts.f : List (List ByteArray) → Option Bool
  | [a, b] => if a.length ≤ 1000000 ∧ b.length ≤ 1000000 then some true else none
  | _ => none
theorem undercroftkit_ApartTexts.small {a b : List ByteArray} {y : List (List ByteArray)} {t : Bool} (hy : y = [a, b]) (h : undercroftkit_ApartTexts.f y = some t) : a.length ≤ 1000000 ∧ b.length ≤ 1000000 := by
  subst hy
  unfold undercroftkit_ApartTexts.f at h
  by_cases c : a.length ≤ 1000000 ∧ b.length ≤ 1000000
  · exact c
  · simp only [if_neg c] at h
    cases h
end Go.Proofs.Ytochgkepaleblaa.Hand
