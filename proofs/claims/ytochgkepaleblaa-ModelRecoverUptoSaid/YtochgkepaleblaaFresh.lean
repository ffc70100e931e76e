/- What Copy and Recover hand out, as `right` asks it. -/
import Derived.Test.YtochgkepaleblaaRight
set_option linter.unusedVariables false
set_option linter.unusedSimpArgs false
namespace Go.Proofs.Ytochgkepaleblaa.Fresh
open Go.RowKit Go.Proofs.YtochgkepaleblaaW.PrintWords Go.Proofs.YtochgkepaleblaaW.PrintLast Go.Proofs.YtochgkepaleblaaW.PrintMore
open Go.Proofs.Ytochgkepaleblaa.Rowz Go.Proofs.Ytochgkepaleblaa.Marks Go.Proofs.Ytochgkepaleblaa.Rec Go.Proofs.Ytochgkepaleblaa.ApI Go.Proofs.Ytochgkepaleblaa.Right
open Go.Proofs.Ytochgkepaleblaa.Held (B63 kB63 enc63)

theorem reps_flat {α : Type} {R : α → List Value → Prop} {sz : Nat} {enc : α → List Value} (hR : ∀ p c, R p c → c = enc p) : ∀ (xs : List α) (cs : List Value), Reps R sz xs cs → cs = xs.flatMap enc
  | [], cs, h => by
    have := h.1
    simp at this
    subst this
    rfl
  | x :: r, cs, h => by
    have h0 := hR _ _ (h.2 0 x rfl)
    rw [Nat.zero_mul, List.drop_zero] at h0
    have hl := h.1
    rw [List.length_cons, Nat.succ_mul] at hl
    have hr : Reps R sz r (cs.drop sz) := ⟨by rw [List.length_drop]; omega, fun j p hp => by
      have := h.2 (j + 1) p (by simpa using hp)
      rw [List.drop_drop]
      rwa [Nat.succ_mul, Nat.add_comm] at this⟩
    have h1 := reps_flat hR r _ hr
    rw [List.flatMap_cons, ← h1, ← h0, List.take_append_drop]
theorem row63 {w : World} {base : Nat} {ok : Nat → Prop} {v : Value} {xs : List B63} (h : kB63.R 63 w base ok v xs) : K63.RS w base v xs := by
  obtain ⟨_, inner, ho, hr⟩ := h
  have e := reps_flat (enc := enc63) (fun p c hp => hp) xs inner hr
  subst e
  exact ho
theorem row66 {w : World} {base : Nat} {ok : Nat → Prop} {v : Value} {xs : List S66} (h : k66.R 66 w base ok v xs) : K66.RS w base v xs := by
  obtain ⟨_, inner, ho, hr⟩ := h
  have e := reps_flat (enc := enc66) (fun p c hp => k66_openM hp) xs inner hr
  subst e
  exact ho
def toI (l : List Value) : I54 := if h : l.length = 7 ∧ ∀ u ∈ l, u.oneCell' = true then ⟨l, h⟩ else itm 0 0
theorem toI_val {l : List Value} (h1 : l.length = 7) (h2 : ∀ u ∈ l, u.oneCell' = true) : (toI l).1 = l := by
  have e : toI l = (⟨l, h1, h2⟩ : I54) := dif_pos ⟨h1, h2⟩
  rw [e]
theorem chunks (l : List Value) : ∀ (n : Nat), l.length = n * 7 → (∀ u ∈ l, u.oneCell' = true) → K54.flat ((List.range n).map fun i => toI ((l.drop (i * 7)).take 7)) = l
  | 0, h, _ => by
    simp at h
    subst h
    rfl
  | n + 1, h, h1 => by
    have hl : (l.take (n * 7)).length = n * 7 := by rw [List.length_take]; omega
    have ih := chunks (l.take (n * 7)) n hl (fun u hu => h1 u (List.mem_of_mem_take hu))
    have e : ((List.range n).map fun i => toI ((l.drop (i * 7)).take 7)) = (List.range n).map fun i => toI (((l.take (n * 7)).drop (i * 7)).take 7) := by
      apply List.map_congr_left
      intro i hi
      have hi' := List.mem_range.1 hi
      rw [List.drop_take, List.take_take, Nat.min_eq_left (by omega)]
    rw [List.range_succ, List.map_append, K54.flat_append, e, ih, List.map_singleton, K54.flat_one]
    have h2 : ((l.drop (n * 7)).take 7).length = 7 := by rw [List.length_take, List.length_drop]; omega
    show l.take (n * 7) ++ (toI ((l.drop (n * 7)).take 7)).1 = l
    rw [toI_val h2 (fun u hu => h1 u (List.mem_of_mem_drop (List.mem_of_mem_take hu))), List.take_of_length_le (l := l.drop (n * 7)) (by rw [List.length_drop]; omega), List.take_append_drop]

/-- A list of items in memory of its own: between lo and hi lie all its blocks. -/
structure Piece (w : World) (N lo hi : Nat) (v : Value) (xs : List S54) (L : List Q) (X : List I54) : Prop where
  row : K54.RS w N v X
  xlen : X.length = xs.length
  llen : L.length = xs.length
  at_ : ∀ k (h : k < L.length), ∃ ib, v.ownBlock = some ib ∧ w.cell? ⟨ib, k * 7 + 5, none⟩ = some L[k].dv ∧ w.cell? ⟨ib, k * 7 + 6, none⟩ = some L[k].ev
  drow : ∀ q ∈ L, K63.RS w N q.dv q.ds
  erow : ∀ q ∈ L, K66.RS w N q.ev q.es
  dne : L.Pairwise fun a b => NeRow a.dv b.dv
  ene : L.Pairwise fun a b => NeRow a.ev b.ev
  of_ : ∀ q ∈ L, ∃ x ∈ xs, q.ds = x.f5 ∧ q.es = x.f6
  vrng : ∀ b, v.ownBlock = some b → lo ≤ b ∧ b < hi
  drng : ∀ q ∈ L, ∀ b, q.dv.ownBlock = some b → lo ≤ b ∧ b < hi
  erng : ∀ q ∈ L, ∀ b, q.ev.ownBlock = some b → lo ≤ b ∧ b < hi
theorem Piece.below {w w1 : World} {N lo hi : Nat} {v : Value} {xs : List S54} {L : List Q} {X : List I54} (h : Piece w N lo hi v xs L X) (hb : Below w.heap.size w w1) : Piece w1 N lo hi v xs L X where
  row := h.row.below hb
  xlen := h.xlen
  llen := h.llen
  at_ := fun k hk => by
    obtain ⟨ib, h1, h2, h3⟩ := h.at_ k hk
    exact ⟨ib, h1, ApE.hc hb h2, ApE.hc hb h3⟩
  drow := fun q hq => (h.drow q hq).below hb
  erow := fun q hq => (h.erow q hq).below hb
  dne := h.dne
  ene := h.ene
  of_ := h.of_
  vrng := h.vrng
  drng := h.drng
  erng := h.erng
theorem rs_lower {α : Type} {K : EK α} {w : World} {N N' : Nat} {v : Value} {xs : List α} (h : K.RS w N v xs) (hn : N' ≤ N) : K.RS w N' v xs := own_weaken h hn
theorem piece {w : World} {N base : Nat} {ok : Nat → Prop} {v : Value} {xs : List S54} (hS : Kd.S k54 54 w base ok v xs) (hN : N ≤ base) : ∃ L X, Piece w N base w.heap.size v xs L X := by
  obtain ⟨f, h0, inner, ho, hr⟩ := hS
  rw [List.length_zipIdx] at ho
  have hil : inner.length = xs.length * 7 := by
    have := hr.1
    rw [List.length_zipIdx] at this
    exact this
  have hel : ∀ i, ∃ p : Value × Value, i < xs.length → (inner[i * 7 + 5]? = some p.1 ∧ inner[i * 7 + 6]? = some p.2 ∧ (∃ ok', kB63.R 63 w base ok' p.1 (xs.getD i z54).f5 ∧ ∀ k, ok' k → f k = i) ∧ (∃ ok', k66.R 66 w base ok' p.2 (xs.getD i z54).f6 ∧ ∀ k, ok' k → f k = i)) := by
    intro i
    by_cases hi : i < xs.length
    · have hz : xs.zipIdx[i]? = some (xs.getD i z54, i) := by
        rw [List.getElem?_zipIdx, List.getElem?_eq_getElem hi, Nat.zero_add, List.getD_eq_getElem?_getD, List.getElem?_eq_getElem hi]
        rfl
      have hM := hr.2 i _ hz
      obtain ⟨v5, v6, hc, h5, h6⟩ := k54_openM hM
      have hc' : (inner.drop (i * 7)).take 7 = _ := hc
      refine ⟨(v5, v6), fun _ => ⟨?_, ?_, ⟨_, h5, fun k hk => hk.2⟩, ⟨_, h6, fun k hk => hk.2⟩⟩⟩
      · have := congrArg (fun l => l[5]?) hc'
        simp only [List.getElem?_take_of_lt (show 5 < 7 by decide), List.getElem?_drop] at this
        rw [this]
        rfl
      · have := congrArg (fun l => l[6]?) hc'
        simp only [List.getElem?_take_of_lt (show 6 < 7 by decide), List.getElem?_drop] at this
        rw [this]
        rfl
    · exact ⟨(.bool false, .bool false), fun h => absurd h hi⟩
  obtain ⟨F, hF⟩ := Classical.axiomOfChoice hel
  have hone : ∀ u ∈ inner, u.oneCell' = true := by
    intro u hu
    obtain ⟨j, hj, rfl⟩ := List.mem_iff_getElem.1 hu
    have hq : j / 7 < xs.length := by omega
    have hz : xs.zipIdx[j / 7]? = some (xs.getD (j / 7) z54, j / 7) := by
      rw [List.getElem?_zipIdx, List.getElem?_eq_getElem hq, Nat.zero_add, List.getD_eq_getElem?_getD, List.getElem?_eq_getElem hq]
      rfl
    have hM := hr.2 (j / 7) _ hz
    refine k54.K_one (k54.K_of_M hM) _ ?_
    have e : ((inner.drop (j / 7 * 7)).take 7)[j % 7]? = some inner[j] := by
      rw [List.getElem?_take_of_lt (Nat.mod_lt _ (by decide)), List.getElem?_drop]
      have : j / 7 * 7 + j % 7 = j := by omega
      rw [this, List.getElem?_eq_getElem hj]
    exact List.mem_of_getElem? e
  let L : List Q := (List.range xs.length).map fun i => ⟨(F i).1, (xs.getD i z54).f5, (F i).2, (xs.getD i z54).f6⟩
  have hLl : L.length = xs.length := by simp [L]
  have hLk : ∀ k (h : k < L.length), L[k] = ⟨(F k).1, (xs.getD k z54).f5, (F k).2, (xs.getD k z54).f6⟩ := fun k h => by simp [L]
  have hLm : ∀ q ∈ L, ∃ i, i < xs.length ∧ q = ⟨(F i).1, (xs.getD i z54).f5, (F i).2, (xs.getD i z54).f6⟩ := by
    intro q hq
    obtain ⟨i, hi, e⟩ := List.mem_map.1 hq
    exact ⟨i, List.mem_range.1 hi, e.symm⟩
  have hrow : K54.RS w base v ((List.range xs.length).map fun i => toI ((inner.drop (i * 7)).take 7)) := by
    unfold EK.RS
    rw [chunks inner xs.length hil hone, List.length_map, List.length_range]
    exact ho
  refine ⟨L, _, rs_lower hrow hN, by rw [List.length_map, List.length_range], hLl, ?_, ?_, ?_, ?_, ?_, ?_, ?_, ?_, ?_⟩
  · intro k hk
    have hk' : k < xs.length := by omega
    rw [hLk k hk]
    obtain ⟨h5, h6, _⟩ := hF k hk'
    rcases ho.2 with ⟨_, hn0⟩ | ⟨g, cap, cur, hv, hb, hh, hnc, hcm, hcs, htk⟩
    · omega
    · subst hv
      have hl5 := (List.getElem?_eq_some_iff.1 h5).1
      have hl6 := (List.getElem?_eq_some_iff.1 h6).1
      refine ⟨g, rfl, ?_, ?_⟩
      · have := ho.cells (g := g) rfl _ _ h5
        rwa [add_plain] at this
      · have := ho.cells (g := g) rfl _ _ h6
        rwa [add_plain] at this
  · intro q hq
    obtain ⟨i, hi, rfl⟩ := hLm q hq
    obtain ⟨_, _, ⟨ok', h5, _⟩, _⟩ := hF i hi
    exact rs_lower (row63 h5) hN
  · intro q hq
    obtain ⟨i, hi, rfl⟩ := hLm q hq
    obtain ⟨_, _, _, ⟨ok', h6, _⟩⟩ := hF i hi
    exact rs_lower (row66 h6) hN
  · rw [List.pairwise_iff_getElem]
    intro i j hi hj hij
    rw [hLk i hi, hLk j hj]
    intro b hb hb'
    obtain ⟨_, _, ⟨ok1, h1, t1⟩, _⟩ := hF i (by omega)
    obtain ⟨_, _, ⟨ok2, h2, t2⟩, _⟩ := hF j (by omega)
    have e1 := t1 b (h1.1 b hb)
    have e2 := t2 b (h2.1 b hb')
    omega
  · rw [List.pairwise_iff_getElem]
    intro i j hi hj hij
    rw [hLk i hi, hLk j hj]
    intro b hb hb'
    obtain ⟨_, _, _, ⟨ok1, h1, t1⟩⟩ := hF i (by omega)
    obtain ⟨_, _, _, ⟨ok2, h2, t2⟩⟩ := hF j (by omega)
    have e1 := t1 b (h1.1 b hb)
    have e2 := t2 b (h2.1 b hb')
    omega
  · intro q hq
    obtain ⟨i, hi, rfl⟩ := hLm q hq
    refine ⟨xs.getD i z54, ?_, rfl, rfl⟩
    rw [List.getD_eq_getElem?_getD, List.getElem?_eq_getElem hi]
    exact List.getElem_mem hi
  · intro b hb
    exact ⟨own_base ho b hb, own_lt ho b hb⟩
  · intro q hq b hb
    obtain ⟨i, hi, rfl⟩ := hLm q hq
    obtain ⟨_, _, ⟨ok', h5, _⟩, _⟩ := hF i hi
    exact ⟨(row63 h5).base hb, (row63 h5).lt hb⟩
  · intro q hq b hb
    obtain ⟨i, hi, rfl⟩ := hLm q hq
    obtain ⟨_, _, _, ⟨ok', h6, _⟩⟩ := hF i hi
    exact ⟨(row66 h6).base hb, (row66 h6).lt hb⟩
def three {α : Type} (x z a : α) : Nat → α
  | 0 => x
  | 1 => z
  | _ => a
/-- Three pieces are a book. -/
theorem book {w : World} {N s l1 h1 l2 h2 l3 h3 : Nat} {vx vz va : Value} {xs zs us : List S54} {Lx Lz La : List Q} {Xx Xz Xa : List I54} {sc : Array Value} (hx : Piece w N l1 h1 vx xs Lx Xx) (hz : Piece w N l2 h2 vz zs Lz Xz) (ha : Piece w N l3 h3 va us La Xa)
    (h31 : h3 ≤ l1) (h12 : h1 ≤ l2) (h32 : h3 ≤ l2) (hs : w.heap[s]? = some (.cells sc 24 (0, 0))) (hN : N ≤ s) (c0 : sc[0]? = some vx) (c3 : sc[3]? = some vz) (c6 : sc[6]? = some va) : Book w N s 3 [Lx, Lz, La] (three vx vz va) (three Xx Xz Xa) where
  rows := by
    refine ⟨hN, fun j hj => ?_, fun j hj => ?_, fun i j hi hj hij b hb => ?_, fun j hj => ?_⟩
    · rw [blk_cell hs]
      match j, hj with
      | 0, _ => exact c0
      | 1, _ => exact c3
      | 2, _ => exact c6
    · match j, hj with
      | 0, _ => exact hx.row
      | 1, _ => exact hz.row
      | 2, _ => exact ha.row
    · intro hb'
      match i, j, hi, hj with
      | 0, 0, _, _ => exact hij rfl
      | 1, 1, _, _ => exact hij rfl
      | 2, 2, _, _ => exact hij rfl
      | 0, 1, _, _ => have := hx.vrng b hb; have := hz.vrng b hb'; omega
      | 1, 0, _, _ => have := hz.vrng b hb; have := hx.vrng b hb'; omega
      | 0, 2, _, _ => have := hx.vrng b hb; have := ha.vrng b hb'; omega
      | 2, 0, _, _ => have := ha.vrng b hb; have := hx.vrng b hb'; omega
      | 1, 2, _, _ => have := hz.vrng b hb; have := ha.vrng b hb'; omega
      | 2, 1, _, _ => have := ha.vrng b hb; have := hz.vrng b hb'; omega
    · match j, hj with
      | 0, _ => exact typed_blk hx.row hs (by decide)
      | 1, _ => exact typed_blk hz.row hs (by decide)
      | 2, _ => exact typed_blk ha.row hs (by decide)
  typ := ⟨sc, hs⟩
  dlen := rfl
  len := fun j hj => by
    match j, hj with
    | 0, _ => exact hx.xlen.trans hx.llen.symm
    | 1, _ => exact hz.xlen.trans hz.llen.symm
    | 2, _ => exact ha.xlen.trans ha.llen.symm
  at_ := fun j k h => by
    match j, h with
    | 0, h => exact hx.at_ k h
    | 1, h => exact hz.at_ k h
    | 2, h => exact ha.at_ k h
    | j + 3, h => exact absurd h (Nat.not_lt_zero _)
  drow := fun q hq => by
    simp only [List.flatten_cons, List.flatten_nil, List.append_nil, List.mem_append] at hq
    rcases hq with hq | hq | hq
    · exact hx.drow q hq
    · exact hz.drow q hq
    · exact ha.drow q hq
  erow := fun q hq => by
    simp only [List.flatten_cons, List.flatten_nil, List.append_nil, List.mem_append] at hq
    rcases hq with hq | hq | hq
    · exact hx.erow q hq
    · exact hz.erow q hq
    · exact ha.erow q hq
  dne := by
    simp only [List.flatten_cons, List.flatten_nil, List.append_nil]
    rw [List.pairwise_append, List.pairwise_append]
    refine ⟨hx.dne, ⟨hz.dne, ha.dne, fun p hp q hq b hb hb' => ?_⟩, fun p hp q hq b hb hb' => ?_⟩
    · have := hz.drng p hp b hb
      have := ha.drng q hq b hb'
      omega
    · have := hx.drng p hp b hb
      rcases List.mem_append.1 hq with hq | hq
      · have := hz.drng q hq b hb'
        omega
      · have := ha.drng q hq b hb'
        omega
  ene := by
    simp only [List.flatten_cons, List.flatten_nil, List.append_nil]
    rw [List.pairwise_append, List.pairwise_append]
    refine ⟨hx.ene, ⟨hz.ene, ha.ene, fun p hp q hq b hb hb' => ?_⟩, fun p hp q hq b hb hb' => ?_⟩
    · have := hz.erng p hp b hb
      have := ha.erng q hq b hb'
      omega
    · have := hx.erng p hp b hb
      rcases List.mem_append.1 hq with hq | hq
      · have := hz.erng q hq b hb'
        omega
      · have := ha.erng q hq b hb'
        omega
end Go.Proofs.Ytochgkepaleblaa.Fresh
