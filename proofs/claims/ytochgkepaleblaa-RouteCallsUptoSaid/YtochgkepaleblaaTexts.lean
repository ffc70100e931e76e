/- A list of strings that came in, as the walks read it. -/
import Derived.Test.YtochgkepaleblaaWMore
import Derived.SliceStrings
import Derived.SizedLaws
set_option linter.unusedVariables false
namespace Go.Proofs.Ytochgkepaleblaa.Texts
open Go.RowKit Go.ChangeShapes Go.WideShapes Go.Proofs.YtochgkepaleblaaW.PrintWords Go.Proofs.YtochgkepaleblaaW.PrintMore

theorem cell_heap {w w1 : World} (a : Addr) (h : w1.heap[a.block]? = w.heap[a.block]?) : w1.cell? a = w.cell? a := by
  unfold World.cell?
  rw [h]
theorem add_block (a : Addr) (n : Nat) : (a.add n).block = a.block := by
  unfold Addr.add
  split <;> rfl
theorem texts_V {W : World} {A : Option Addr} {cap : Nat} {l : List ByteArray} (hl : l.length ≤ cap) (hm : l.length ≤ 9223372036854775807)
    (h : 0 < l.length → ∃ a, A = some a ∧ ∀ i x, l[i]? = some x → W.cell? (a.add i) = some (.string x)) : Kd.V Kd.string 9 W W.heap.size (fun _ => True) (.slice A l.length cap) l := by
  refine ⟨A, cap, rfl, hl, fun W' hW => ⟨rfl, hm, fun hpos => ?_⟩⟩
  obtain ⟨a, e, hc⟩ := h hpos
  refine ⟨a, e, fun j p hj => ⟨[.string p], rfl, rfl, fun i u hu => ?_⟩⟩
  cases i with
  | zero =>
    simp only [List.getElem?_cons_zero, Option.some.injEq] at hu
    subst hu
    have h1 := hc j p hj
    have hlt := World.block_lt_of_cell? W _ h1
    rw [add_block] at hlt
    show W'.cell? (a.add (j * 1 + 0)) = _
    rw [Nat.mul_one, Nat.add_zero, cell_heap (w := W), h1]
    rw [add_block]
    exact hW _ trivial hlt
  | succ i => simp at hu

/-- What an argument '[]string' is: a list of strings. -/
theorem open_texts {H : Type} {enc : TypeId × Value → H} {P : Program} {W : World} {base : Nat} {spare : Nat → Bool} {held : Bool} {t e : TypeId} {a : Option Addr} {len cap : Nat} {d : DataW H} {ps : List MemPlace}
    (hu : P.underlying t = some (.slice e)) (he : P.underlying e = some .string) (hc : P.cellsOf e = 1)
    (h : DataW.Trod enc P W base spare held t (.slice a len cap) d ps) :
    ∃ l : List ByteArray, l.length = len ∧ (∀ x ∈ l, x.size ≤ maxLen) ∧ Kd.V Kd.string 9 W W.heap.size (fun _ => True) (.slice a l.length cap) l ∧ (d = .nil ∧ l = [] ∨ ∃ rest, d = .slice (strs l) rest) := by
  obtain ⟨fuel, hf⟩ := h
  rcases open_strings hu he hc hf with ⟨hcs, hx⟩ | ⟨x, l, c, ss, hcs, _, hl, hm, hz, hx, hcell, hsz⟩
  · simp [Value.cells] at hcs
    obtain ⟨rfl, rfl, rfl⟩ := hcs
    obtain ⟨hx, _⟩ := Prod.mk.inj hx
    exact ⟨[], rfl, by simp, texts_V (by simp) (by simp) (by simp), .inl ⟨hx, rfl⟩⟩
  · simp [Value.cells] at hcs
    obtain ⟨rfl, rfl, rfl⟩ := hcs
    obtain ⟨hx, _⟩ := Prod.mk.inj hx
    have hl2 : len ≤ ss.length := by
      rw [hz]
      split
      · exact hl
      · exact Nat.le_refl _
    have hlen : (ss.take len).length = len := by rw [List.length_take]; omega
    refine ⟨ss.take len, hlen, fun x hx => hsz x (List.mem_of_mem_take hx), texts_V (by omega) (by unfold maxLen at hm; omega) (fun _ => ⟨x, rfl, fun i y hy => ?_⟩), .inr ⟨_, hx⟩⟩
    have hi : i < len := by
      have := (List.getElem?_eq_some_iff.1 hy).1
      omega
    rw [hcell i (by omega)]
    rw [List.getElem?_take_of_lt hi] at hy
    rw [List.getD_eq_getElem?_getD, hy]
    rfl
end Go.Proofs.Ytochgkepaleblaa.Texts
