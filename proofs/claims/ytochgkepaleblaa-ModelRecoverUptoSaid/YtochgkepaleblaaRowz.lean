/- Rows of elements of many cells that lie apart, one behind the other written over and gone on with: plain lemmas on memory, no program in sight. -/
import Derived.Test.YtochgkepaleblaaApp
import Derived.Deep.MidRow
set_option linter.unusedVariables false
set_option linter.unusedSimpArgs false
namespace Go.Proofs.Ytochgkepaleblaa.Rowz
open Go.RowKit Go.Proofs.YtochgkepaleblaaW.PrintWords Go.Proofs.YtochgkepaleblaaW.PrintLast Go.Proofs.YtochgkepaleblaaW.PrintMore

structure Keep (p : Prop) : Prop where mk :: (out : p)
/-- A kind of element: its type, its list's type, its cells; the mark that stands at a place of a list of so many elements. -/
structure EK (α : Type) where
  E : Nat
  H : Nat
  sz : Nat
  enc : α → List Value
  len : ∀ x, (enc x).length = sz
  one : ∀ x, ∀ u ∈ enc x, u.oneCell' = true
  pos : 0 < sz
  ne : E ≠ H
  mrk : Nat → Nat → Nat → α

variable {α : Type} (K : EK α)
def EK.flat (xs : List α) : List Value := xs.flatMap K.enc
theorem EK.flat_nil : K.flat [] = [] := rfl
theorem EK.flat_cons (x : α) (xs : List α) : K.flat (x :: xs) = K.enc x ++ K.flat xs := rfl
theorem EK.flat_append (xs ys : List α) : K.flat (xs ++ ys) = K.flat xs ++ K.flat ys := List.flatMap_append
theorem EK.flat_one (x : α) : K.flat [x] = K.enc x := by rw [K.flat_cons, K.flat_nil, List.append_nil]
theorem EK.flat_length (xs : List α) : (K.flat xs).length = xs.length * K.sz := by
  induction xs with
  | nil => simp [EK.flat_nil]
  | cons x xs ih => rw [K.flat_cons, List.length_append, ih, K.len, List.length_cons, Nat.succ_mul, Nat.add_comm]
theorem EK.flat_at (xs : List α) (i : Nat) (x : α) (h : xs[i]? = some x) (j : Nat) (hj : j < K.sz) : (K.flat xs)[i * K.sz + j]? = (K.enc x)[j]? := by
  induction xs generalizing i with
  | nil => simp at h
  | cons y ys ih =>
    rw [K.flat_cons]
    cases i with
    | zero =>
      obtain rfl : y = x := by simpa using h
      rw [Nat.zero_mul, Nat.zero_add, List.getElem?_append_left (by rw [K.len]; exact hj)]
    | succ i =>
      have h' : ys[i]? = some x := by simpa using h
      rw [List.getElem?_append_right (by rw [K.len, Nat.succ_mul]; omega), K.len, ← ih i h']
      congr 1
      rw [Nat.succ_mul]
      omega
theorem EK.flat_set (xs : List α) (i : Nat) (x : α) (h : i < xs.length) : K.flat (xs.set i x) = (K.flat xs).take (i * K.sz) ++ K.enc x ++ (K.flat xs).drop (i * K.sz + K.sz) := by
  have e1 : xs = xs.take i ++ (xs[i] :: xs.drop (i + 1)) := by rw [← List.drop_eq_getElem_cons h, List.take_append_drop]
  have e2 : xs.set i x = xs.take i ++ (x :: xs.drop (i + 1)) := by rw [List.set_eq_take_append_cons_drop, if_pos h]
  have hl : (K.flat (xs.take i)).length = i * K.sz := by rw [K.flat_length, List.length_take, Nat.min_eq_left (by omega)]
  have e3 : K.flat xs = K.flat (xs.take i) ++ (K.enc xs[i] ++ K.flat (xs.drop (i + 1))) := by
    conv => lhs; rw [e1]
    rw [K.flat_append, K.flat_cons]
  have e4 : (K.flat xs).drop (i * K.sz + K.sz) = K.flat (xs.drop (i + 1)) := by
    rw [e3, ← List.append_assoc, List.drop_append_of_le_length (by rw [List.length_append, hl, K.len]; exact Nat.le_refl _), List.drop_of_length_le (by rw [List.length_append, hl, K.len]; exact Nat.le_refl _), List.nil_append]
  have e5 : (K.flat xs).take (i * K.sz) = K.flat (xs.take i) := by
    rw [e3, List.take_append_of_le_length (by rw [hl]; exact Nat.le_refl _), List.take_of_length_le (by rw [hl]; exact Nat.le_refl _)]
  rw [e2, K.flat_append, K.flat_cons, e4, e5, List.append_assoc]
theorem EK.flat_oneCell (xs : List α) : ∀ u ∈ K.flat xs, u.oneCell' = true := by
  intro u hu
  obtain ⟨x, _, hx⟩ := List.mem_flatMap.1 hu
  exact K.one x u hx

/-- A row of one's own. -/
def EK.RS (w : World) (N : Nat) (v : Value) (xs : List α) : Prop := w.ownsRow N K.E K.sz v xs.length (K.flat xs)
variable {K}
section
variable {w w1 : World} {N : Nat} {v : Value} {xs : List α}
theorem EK.RS.move (h : K.RS w N v xs) (hm : ∀ k, v.ownBlock = some k → w1.heap[k]? = w.heap[k]?) : K.RS w1 N v xs := own_move h hm
theorem EK.RS.below (h : K.RS w N v xs) (hb : Below w.heap.size w w1) : K.RS w1 N v xs := pw_own_below h hb
theorem EK.RS.lt (h : K.RS w N v xs) {k : Nat} (hk : v.ownBlock = some k) : k < w.heap.size := own_lt h k hk
theorem EK.RS.base (h : K.RS w N v xs) {k : Nat} (hk : v.ownBlock = some k) : N ≤ k := own_base h k hk
theorem EK.RS.nil (w : World) (N : Nat) : K.RS w N (.slice none 0 0) [] := own_nil _ _ _ _
theorem EK.RS.form (h : K.RS w N v xs) : ∃ A c, v = .slice A xs.length c := own_slice h
/-- Element i is read, and may be written. -/
theorem EK.RS.hit (h : K.RS w N v xs) {i : Nat} {x : α} (hx : xs[i]? = some x) :
    ∃ b c, v = .slice (some ⟨b, 0, none⟩) xs.length c ∧ N ≤ b ∧ w.rangeAt b (i * K.sz) (K.enc x) ∧ w.there b (i * K.sz) K.sz := by
  have hi : i < xs.length := (List.getElem?_eq_some_iff.1 hx).1
  rcases h.2 with ⟨_, h0⟩ | ⟨b, cap, cur, rfl, hb, hh, hnc, hcm, hcs, htk⟩
  · omega
  · have hmul : (i + 1) * K.sz ≤ xs.length * K.sz := Nat.mul_le_mul_right _ hi
    have hmul2 : xs.length * K.sz ≤ cap * K.sz := Nat.mul_le_mul_right _ hnc
    rw [Nat.succ_mul] at hmul
    refine ⟨b, cap, rfl, hb, fun j u hj => ?_, fun j hj => ⟨?_, ?_⟩⟩
    · have hjs : j < K.sz := by rw [← K.len x]; exact (List.getElem?_eq_some_iff.1 hj).1
      have := K.flat_at xs i x hx j hjs
      rw [← htk, List.getElem?_take_of_lt (by omega), hj] at this
      rw [blk_cell hh]
      simpa using this
    · rw [blk_cell hh, Array.getElem?_eq_getElem (by omega)]
      rfl
    · exact blk_frozen hh _
theorem EK.RS.put (h : K.RS w N v xs) {i b : Nat} (hb : v.ownBlock = some b) (hi : i < xs.length) (x : α) : K.RS (w.setCells b (i * K.sz) (K.enc x)) N v (xs.set i x) := by
  rcases h.2 with ⟨rfl, h0⟩ | ⟨b', cap, cur, rfl, hbb, hh, hnc, hcm, hcs, htk⟩
  · simp [Value.ownBlock] at hb
  · obtain rfl : b' = b := by simpa [Value.ownBlock] using hb
    have hmul : (i + 1) * K.sz ≤ xs.length * K.sz := Nat.mul_le_mul_right _ hi
    have hmul2 : xs.length * K.sz ≤ cap * K.sz := Nat.mul_le_mul_right _ hnc
    rw [Nat.succ_mul] at hmul
    obtain ⟨cur', h1, h2, h3⟩ := setCells_row (K.enc x) (i * K.sz) w cur hh (by rw [K.len]; omega)
    refine ⟨by rw [K.flat_length], .inr ⟨b', cap, cur', by rw [List.length_set], hbb, h1, by rw [List.length_set]; exact hnc, hcm, by rw [h2]; exact hcs, ?_⟩⟩
    rw [K.flat_set xs i x hi, h3, ← htk, List.length_set, K.len]
    have hcl : cur.toList.length = cap * K.sz := by rw [Array.length_toList]; exact hcs
    rw [List.take_take, Nat.min_eq_left (by omega), List.drop_take]
    rw [List.take_append, List.take_of_length_le (l := cur.toList.take (i * K.sz) ++ K.enc x) (by rw [List.length_append, List.length_take, K.len]; omega)]
    congr 2
    rw [List.length_append, List.length_take, K.len]
    omega
end

/-- All blocks but the bad ones (and new ones) are as they were. -/
structure Far (bad : Nat → Prop) (w w' : World) : Prop where
  os : w'.os = w.os
  tape : w'.tape = w.tape
  output : w'.output = w.output
  size : w.heap.size ≤ w'.heap.size
  block : ∀ k, k < w.heap.size → ¬ bad k → w'.heap[k]? = w.heap[k]?
section
variable {bad bad' : Nat → Prop} {w w1 w2 : World}
theorem Far.refl (bad : Nat → Prop) (w : World) : Far bad w w := ⟨rfl, rfl, rfl, Nat.le_refl _, fun _ _ _ => rfl⟩
theorem Far.below (h : Far bad w w1) (hb : Below w1.heap.size w1 w2) : Far bad w w2 :=
  ⟨hb.os.trans h.os, hb.tape.trans h.tape, hb.output.trans h.output, Nat.le_trans h.size hb.size, fun k hk hn => (hb.block k (Nat.lt_of_lt_of_le hk h.size)).trans (h.block k hk hn)⟩
theorem Far.grown (h : Far bad w w1) {row : Option Nat} (hg : w1.grownBy w2 row) (hr : ∀ k, row = some k → bad k ∨ w.heap.size ≤ k) : Far bad w w2 :=
  ⟨hg.os.trans h.os, hg.tape.trans h.tape, hg.output.trans h.output, Nat.le_trans h.size hg.size, fun k hk hn => (hg.block k (Nat.lt_of_lt_of_le hk h.size) (fun e => by
    rcases hr k e.symm with h1 | h1
    · exact hn h1
    · omega)).trans (h.block k hk hn)⟩
theorem Far.put (h : Far bad w w1) {b : Nat} (hb : bad b ∨ w.heap.size ≤ b) (o : Nat) (vs : List Value) : Far bad w (w1.setCells b o vs) := by
  obtain ⟨h1, h2, h3, h4⟩ := setCells_same b vs o w1
  refine ⟨h1.trans h.os, h2.trans h.tape, h3.trans h.output, by rw [h4]; exact h.size, fun k hk hn => (setCells_far vs o k (fun e => ?_)).trans (h.block k hk hn)⟩
  subst e
  rcases hb with hb | hb
  · exact hn hb
  · omega
theorem Far.trans (h : Far bad w w1) (k : Far bad w1 w2) : Far bad w w2 :=
  ⟨k.os.trans h.os, k.tape.trans h.tape, k.output.trans h.output, Nat.le_trans h.size k.size, fun i hi hn => (k.block i (Nat.lt_of_lt_of_le hi h.size) hn).trans (h.block i hi hn)⟩
theorem Far.mono (h : Far bad w w1) (hb : ∀ k, k < w.heap.size → bad k → bad' k) : Far bad' w w1 := ⟨h.os, h.tape, h.output, h.size, fun k hk hn => h.block k hk (fun e => hn (hb k hk e))⟩
theorem Far.toBelow (h : Far bad w w1) {N : Nat} (hN : N ≤ w.heap.size) (hb : ∀ k, bad k → N ≤ k) : Below N w w1 :=
  ⟨h.os, h.tape, h.output, h.size, fun k hk => h.block k (by omega) (fun e => by have := hb k e; omega)⟩
theorem Far.cell (h : Far bad w w1) {p o : Nat} {v : Value} (hc : w.cell? ⟨p, o, none⟩ = some v) (hp : ¬ bad p) : w1.cell? ⟨p, o, none⟩ = some v :=
  (World.cell?_of_block (a := ⟨p, o, none⟩) (h.block p (World.block_lt_of_cell? _ _ hc) hp)).trans hc
end

variable (K) in
/-- Lists that lie apart: at block g, at places hd 0, hd 1, .., stand the headers V 0, .., V (n - 1); the rows are own ones, no two in one block. -/
structure Rows (w : World) (N g n : Nat) (hd : Nat → Nat) (V : Nat → Value) (X : Nat → List α) : Prop where
  gN : N ≤ g
  cell : ∀ j, j < n → w.cell? ⟨g, hd j, none⟩ = some (V j)
  row : ∀ j, j < n → K.RS w N (V j) (X j)
  ne : ∀ i j, i < n → j < n → i ≠ j → ∀ b, (V i).ownBlock = some b → (V j).ownBlock ≠ some b
  neg : ∀ j, j < n → (V j).ownBlock ≠ some g

def upd {β : Type} (X : Nat → β) (k : Nat) (l : β) : Nat → β := fun j => if j = k then l else X j
theorem upd_same {β : Type} (X : Nat → β) (k : Nat) (l : β) : upd X k l k = l := if_pos rfl
theorem upd_other {β : Type} (X : Nat → β) {k j : Nat} (l : β) (h : j ≠ k) : upd X k l j = X j := if_neg h
section
variable {w w1 : World} {N g n : Nat} {hd : Nat → Nat} {V : Nat → Value} {X : Nat → List α}
theorem Rows.below (h : Rows K w N g n hd V X) (hb : Below w.heap.size w w1) : Rows K w1 N g n hd V X :=
  ⟨h.gN, fun j hj => (hb.cell (p := ⟨g, hd j, none⟩) (World.block_lt_of_cell? _ _ (h.cell j hj))).trans (h.cell j hj), fun j hj => (h.row j hj).below hb, h.ne, h.neg⟩
theorem Rows.drew (h : Rows K w N g n hd V X) : Rows K w.drew N g n hd V X := h.below (Below.refl _ _).drew
theorem Rows.form (h : Rows K w N g n hd V X) {j : Nat} (hj : j < n) : ∃ A c, V j = .slice A (X j).length c := (h.row j hj).form
theorem Rows.gl (h : Rows K w N g n hd V X) (hn : 0 < n) : g < w.heap.size := World.block_lt_of_cell? _ _ (h.cell 0 hn)
theorem Rows.put (h : Rows K w N g n hd V X) {k i b : Nat} (hk : k < n) (hV : (V k).ownBlock = some b) (hi : i < (X k).length) (x : α) :
    Rows K (w.setCells b (i * K.sz) (K.enc x)) N g n hd V (upd X k ((X k).set i x)) := by
  have hbg : g ≠ b := fun e => h.neg k hk (by rw [hV, e])
  refine ⟨h.gN, fun j hj => ?_, fun j hj => ?_, h.ne, h.neg⟩
  · exact (World.cell?_of_block (a := ⟨g, hd j, none⟩) (setCells_far _ _ g hbg)).trans (h.cell j hj)
  · by_cases e : j = k
    · subst e
      rw [upd_same]
      exact (h.row j hj).put hV hi x
    · rw [upd_other _ _ e]
      exact (h.row j hj).move fun p hp => setCells_far _ _ p (fun e' => h.ne j k hj hk e p hp (by rw [hV, e']))
variable (K) in
def marks (ln k n : Nat) : List α := (List.range n).map (K.mrk ln k)
theorem marks_length (ln k n : Nat) : (marks K ln k n).length = n := by simp [marks]
theorem marks_succ (ln k n : Nat) : marks K ln k (n + 1) = marks K ln k n ++ [K.mrk ln k n] := by simp [marks, List.range_succ]
theorem marks_at (ln k n i : Nat) (h : i < n) : (marks K ln k n)[i]? = some (K.mrk ln k i) := by simp [marks, h]
theorem marks_of {ln k n : Nat} {l : List α} (hl : l.length = n) (h : ∀ q, q < n → l[q]? = some (K.mrk ln k q)) : l = marks K ln k n := by
  apply List.ext_getElem?
  intro q
  by_cases hq : q < n
  · rw [h q hq, marks_at ln k n q hq]
  · rw [List.getElem?_eq_none (by omega), List.getElem?_eq_none (by rw [marks_length]; omega)]
theorem flat_succ (ln k n : Nat) : K.flat (marks K ln k n) ++ K.enc (K.mrk ln k n) = K.flat (marks K ln k (n + 1)) := by
  rw [marks_succ, K.flat_append, K.flat_one]
end

/-! ### The first loop: marks are stored -/
variable (K) in
/-- Behind lists 0 .. k - 1, and i places of list k. -/
structure One (w0 w : World) (N g n k i : Nat) (hd : Nat → Nat) (V : Nat → Value) (X Y : Nat → List α) : Prop where
  rows : Rows K w N g n hd V Y
  len : ∀ j, j < n → (Y j).length = (X j).length
  done : ∀ j, j < k → Y j = marks K (X j).length j (X j).length
  now : ∀ q, q < i → (Y k)[q]? = some (K.mrk (X k).length k q)
  far : Far (fun b => ∃ j, j < n ∧ (V j).ownBlock = some b) w0 w
section
variable {w0 w w1 : World} {N g n k i : Nat} {hd : Nat → Nat} {V : Nat → Value} {X Y : Nat → List α}
theorem One.start (h : Rows K w N g n hd V X) : One K w w N g n 0 0 hd V X X := ⟨h, fun _ _ => rfl, fun j hj => by omega, fun q hq => by omega, Far.refl _ _⟩
theorem One.below (h : One K w0 w N g n k i hd V X Y) (hb : Below w.heap.size w w1) : One K w0 w1 N g n k i hd V X Y := ⟨h.rows.below hb, h.len, h.done, h.now, h.far.below hb⟩
theorem One.drew (h : One K w0 w N g n k i hd V X Y) : One K w0 w.drew N g n k i hd V X Y := h.below (Below.refl _ _).drew
theorem One.hit (h : One K w0 w N g n k i hd V X Y) (hk : k < n) (hi : i < (X k).length) : ∃ b c, V k = .slice (some ⟨b, 0, none⟩) (X k).length c ∧ w.there b (i * K.sz) K.sz ∧ w.cell? ⟨g, hd k, none⟩ = some (.slice (some ⟨b, 0, none⟩) (X k).length c) := by
  have hi' : i < (Y k).length := by rw [h.len k hk]; exact hi
  obtain ⟨b, c, h1, _, _, h4⟩ := (h.rows.row k hk).hit (List.getElem?_eq_getElem hi')
  rw [h.len k hk] at h1
  exact ⟨b, c, h1, h4, (h.rows.cell k hk).trans (by rw [h1])⟩
theorem One.put (h : One K w0 w N g n k i hd V X Y) (hk : k < n) {b : Nat} (hV : (V k).ownBlock = some b) (hi : i < (X k).length) :
    One K w0 (w.setCells b (i * K.sz) (K.enc (K.mrk (X k).length k i))) N g n k (i + 1) hd V X (upd Y k ((Y k).set i (K.mrk (X k).length k i))) := by
  have hi' : i < (Y k).length := by rw [h.len k hk]; exact hi
  refine ⟨h.rows.put hk hV hi' _, fun j hj => ?_, fun j hj => ?_, fun q hq => ?_, h.far.put (.inl ⟨k, hk, hV⟩) _ _⟩
  · by_cases e : j = k
    · subst e
      rw [upd_same, List.length_set, h.len j hj]
    · rw [upd_other _ _ e, h.len j hj]
  · rw [upd_other _ _ (by omega)]
    exact h.done j hj
  · rw [upd_same]
    by_cases e : q = i
    · subst e
      rw [List.getElem?_set_self hi']
    · rw [List.getElem?_set_ne (Ne.symm e)]
      exact h.now q (by omega)
theorem One.next (h : One K w0 w N g n k i hd V X Y) (hk : k < n) (hi : i = (X k).length) : One K w0 w N g n (k + 1) 0 hd V X Y := by
  subst hi
  refine ⟨h.rows, h.len, fun j hj => ?_, fun q hq => by omega, h.far⟩
  by_cases e : j = k
  · subst e
    exact marks_of (h.len j hk) h.now
  · exact h.done j (by omega)
end

/-! ### The second loop: each list is gone on with -/
def hdOf : Value → Option Addr × Nat × Nat
  | .slice a l c => (a, l, c)
  | _ => (none, 0, 0)
def hdr : Kd (Option Addr × Nat × Nat) := Kd.scalar (fun x => .slice x.1 x.2.1 x.2.2) (fun _ => rfl)
def extra (k p j : Nat) : Nat := if j < k then 6 else if j = k then p else 0
theorem extra_self (k p : Nat) : extra k p k = p := by simp [extra]
theorem extra_six (k j : Nat) : extra (k + 1) 0 j = extra k 6 j := by
  unfold extra
  by_cases h1 : j < k
  · rw [if_pos h1, if_pos (by omega)]
  · rw [if_neg h1]
    by_cases h2 : j = k
    · rw [if_pos (by omega), if_pos h2]
    · rw [if_neg (by omega), if_neg h2]
      split <;> rfl
theorem extra_none (j : Nat) : extra 0 0 j = 0 := by
  unfold extra
  split
  · omega
  · split <;> rfl

variable (K) in
/-- Behind k lists that were gone on with, and p marks more at list k: T: the rows as they are now; V: the headers that were told; G: the list of the new headers. -/
structure Two (w0 w : World) (N g n k p : Nat) (hd : Nat → Nat) (V T : Nat → Value) (ln : Nat → Nat) (G : Value) : Prop where
  gN : N ≤ g
  cell : ∀ j, j < n → w.cell? ⟨g, hd j, none⟩ = some (V j)
  form : ∀ j, j < n → (V j = .slice none 0 0 ∧ ln j = 0) ∨ ∃ b c, V j = .slice (some ⟨b, 0, none⟩) (ln j) c ∧ b < w.heap.size
  read : ∀ j, j < n → ∀ b, (V j).ownBlock = some b → ∀ i, i < ln j → w.rangeAt b (i * K.sz) (K.enc (K.mrk (ln j) j i))
  row : ∀ j, j < n → K.RS w N (T j) (marks K (ln j) j (ln j + extra k p j))
  same : ∀ j, (k < j ∨ j = k ∧ p = 0) → T j = V j
  ne : ∀ i j, i < n → j < n → i ≠ j → ∀ b, (T i).ownBlock = some b → (T j).ownBlock ≠ some b
  nv : ∀ i j, i < n → j < n → i ≠ j → ∀ b, (V i).ownBlock = some b → (T j).ownBlock ≠ some b
  neg : ∀ j, j < n → (T j).ownBlock ≠ some g
  heads : w.ownsRow w0.heap.size K.H 1 G k (encs (fun x : Option Addr × Nat × Nat => Value.slice x.1 x.2.1 x.2.2) ((List.range k).map fun j => hdOf (T j)))
  gg : G.ownBlock ≠ some g
  gv : ∀ j, j < n → ∀ b, (V j).ownBlock = some b → G.ownBlock ≠ some b
  tn : ∀ j, j < n → ∀ b, (T j).ownBlock = some b → (V j).ownBlock = some b ∨ w0.heap.size ≤ b
  far : Far (fun b => ∃ j, j < n ∧ (V j).ownBlock = some b) w0 w
section
variable {w0 w w1 : World} {N g n k p : Nat} {hd : Nat → Nat} {V T : Nat → Value} {ln : Nat → Nat} {G : Value}
theorem Two.below (h : Two K w0 w N g n k p hd V T ln G) (hb : Below w.heap.size w w1) : Two K w0 w1 N g n k p hd V T ln G where
  gN := h.gN
  cell j hj := (hb.cell (p := ⟨g, hd j, none⟩) (World.block_lt_of_cell? _ _ (h.cell j hj))).trans (h.cell j hj)
  form j hj := (h.form j hj).imp id fun ⟨b, c, hv, hl⟩ => ⟨b, c, hv, Nat.lt_of_lt_of_le hl hb.size⟩
  read j hj b hv i hi := fun q u hq => (hb.cell (p := ⟨b, i * K.sz + q, none⟩) (World.block_lt_of_cell? _ _ (h.read j hj b hv i hi q u hq))).trans (h.read j hj b hv i hi q u hq)
  row j hj := (h.row j hj).below hb
  same := h.same
  ne := h.ne
  nv := h.nv
  neg := h.neg
  heads := pw_own_below h.heads hb
  gg := h.gg
  gv := h.gv
  tn := h.tn
  far := h.far.below hb
theorem Two.drew (h : Two K w0 w N g n k p hd V T ln G) : Two K w0 w.drew N g n k p hd V T ln G := h.below (Below.refl _ _).drew
theorem Two.own (h : Two K w0 w N g n k p hd V T ln G) {j : Nat} (hj : j < n) : w.ownsRow N K.E K.sz (T j) (ln j + extra k p j) (K.flat (marks K (ln j) j (ln j + extra k p j))) := by
  have := h.row j hj
  unfold EK.RS at this
  rwa [marks_length] at this
theorem Two.apartG (h : Two K w0 w N g n k p hd V T ln G) {j : Nat} (hj : j < n) {b : Nat} (hb : (T j).ownBlock = some b) : G.ownBlock ≠ some b := by
  intro e
  obtain ⟨c1, h1⟩ := own_typed (h.own hj) b hb
  obtain ⟨c2, h2⟩ := own_typed h.heads b e
  rw [h1] at h2
  injection h2 with h2
  injection h2 with _ h2
  exact K.ne h2
theorem Two.ltV (h : Two K w0 w N g n k p hd V T ln G) {j : Nat} (hj : j < n) {b : Nat} (hb : (V j).ownBlock = some b) : b < w.heap.size := by
  rcases h.form j hj with ⟨hv, _⟩ | ⟨b', c, hv, hl⟩
  · rw [hv] at hb
    cases hb
  · rw [hv] at hb
    have : b' = b := by simpa [Value.ownBlock] using hb
    omega
theorem Two.gl (h : Two K w0 w N g n k p hd V T ln G) (hn : 0 < n) : g < w.heap.size := World.block_lt_of_cell? _ _ (h.cell 0 hn)
theorem Two.formT (h : Two K w0 w N g n k p hd V T ln G) {j : Nat} (hj : j < n) : ∃ A c, T j = .slice A (ln j + extra k p j) c := by
  obtain ⟨A, c, e⟩ := (h.row j hj).form
  rw [marks_length] at e
  exact ⟨A, c, e⟩
theorem Two.head (h : Two K w0 w N g n k p hd V T ln G) {j : Nat} (hj : j < n) : ∃ A c, V j = .slice A (ln j) c := by
  rcases h.form j hj with ⟨h1, h2⟩ | ⟨b, c', h1, _⟩
  · exact ⟨none, 0, by rw [h1, h2]⟩
  · exact ⟨_, _, h1⟩

/-- One mark more behind list k. -/
theorem Two.app (h : Two K w0 w N g n k p hd V T ln G) (hk : k < n) {v1 : Value} (ho : w1.ownsRow N K.E K.sz v1 (ln k + p + 1) (K.flat (marks K (ln k) k (ln k + p + 1)))) (hg : w.grownBy w1 (T k).ownBlock)
    (hat : v1.ownBlock = (T k).ownBlock ∨ ∃ b, v1.ownBlock = some b ∧ w.heap.size ≤ b) (hkeep : ∀ b q, (T k).ownBlock = some b → q < (ln k + p) * K.sz → w1.cell? ⟨b, q, none⟩ = w.cell? ⟨b, q, none⟩) :
    Two K w0 w1 N g n k (p + 1) hd V (upd T k v1) ln G := by
  have old : ∀ b, (T k).ownBlock ≠ some b → b < w.heap.size → w1.heap[b]? = w.heap[b]? := fun b hb hl => hg.block b hl (fun e => hb e.symm)
  have hex : ∀ j, j ≠ k → extra k (p + 1) j = extra k p j := by
    intro j hj
    unfold extra
    rw [if_neg hj, if_neg hj]
  have lt_own : ∀ j, j < n → ∀ b, (T j).ownBlock = some b → b < w.heap.size := fun j hj b hb => own_lt (h.own hj) b hb
  have lt_V : ∀ j, j < n → ∀ b, (V j).ownBlock = some b → b < w.heap.size := fun j hj b hb => h.ltV hj hb
  have lt_g : 0 < n → g < w.heap.size := fun hn => World.block_lt_of_cell? _ _ (h.cell 0 hn)
  constructor
  · exact h.gN
  · intro j hj
    refine (World.cell?_of_block (a := ⟨g, hd j, none⟩) ?_).trans (h.cell j hj)
    exact old g (h.neg k hk) (lt_g (by omega))
  · intro j hj
    exact (h.form j hj).imp id fun ⟨b, c, hv, hl⟩ => ⟨b, c, hv, Nat.lt_of_lt_of_le hl hg.size⟩
  · intro j hj b hv i hi q u hq
    refine Eq.trans ?_ (h.read j hj b hv i hi q u hq)
    have hqs : q < K.sz := by rw [← K.len (K.mrk (ln j) j i)]; exact (List.getElem?_eq_some_iff.1 hq).1
    by_cases e : (T k).ownBlock = some b
    · by_cases ej : j = k
      · subst ej
        refine hkeep b (i * K.sz + q) e ?_
        have hmul : (i + 1) * K.sz ≤ (ln j + p) * K.sz := Nat.mul_le_mul_right _ (by omega)
        rw [Nat.succ_mul] at hmul
        omega
      · exact absurd e (h.nv j k hj hk ej b hv)
    · exact World.cell?_of_block (a := ⟨b, i * K.sz + q, none⟩) (old b e (lt_V j hj b hv))
  · intro j hj
    by_cases e : j = k
    · subst e
      rw [upd_same, extra_self, ← Nat.add_assoc]
      unfold EK.RS
      rw [marks_length]
      exact ho
    · rw [upd_other _ _ e, hex j e]
      exact (h.row j hj).move fun b hb => old b (h.ne j k hj hk e b hb) (lt_own j hj b hb)
  · intro j hj
    rw [upd_other _ _ (by omega)]
    exact h.same j (.inl (by omega))
  · intro i j hi hj hij b hb
    by_cases ei : i = k
    · subst ei
      rw [upd_same] at hb
      rw [upd_other _ _ (Ne.symm hij)]
      rcases hat with hat | ⟨b', hb', hle⟩
      · exact h.ne i j hi hj hij b (hat ▸ hb)
      · intro e
        have := lt_own j hj b e
        rw [hb'] at hb
        injection hb with hb
        omega
    · rw [upd_other _ _ ei] at hb
      by_cases ej : j = k
      · subst ej
        rw [upd_same]
        rcases hat with hat | ⟨b', hb', hle⟩
        · rw [hat]
          exact h.ne i j hi hj hij b hb
        · rw [hb']
          intro e
          injection e with e
          have := lt_own i hi b hb
          omega
      · rw [upd_other _ _ ej]
        exact h.ne i j hi hj hij b hb
  · intro i j hi hj hij b hb
    by_cases ej : j = k
    · subst ej
      rw [upd_same]
      rcases hat with hat | ⟨b', hb', hle⟩
      · rw [hat]
        exact h.nv i j hi hj hij b hb
      · rw [hb']
        intro e
        injection e with e
        have := lt_V i hi b hb
        omega
    · rw [upd_other _ _ ej]
      exact h.nv i j hi hj hij b hb
  · intro j hj
    by_cases ej : j = k
    · subst ej
      rw [upd_same]
      rcases hat with hat | ⟨b', hb', hle⟩
      · rw [hat]
        exact h.neg j hj
      · rw [hb']
        intro e
        injection e with e
        have := lt_g (by omega)
        omega
    · rw [upd_other _ _ ej]
      exact h.neg j hj
  · have e : ((List.range k).map fun j => hdOf (upd T k v1 j)) = (List.range k).map fun j => hdOf (T j) := by
      apply List.map_congr_left
      intro j hj
      rw [upd_other _ _ (by have := List.mem_range.1 hj; omega)]
    rw [e]
    exact own_move h.heads fun b hb => old b (fun e => h.apartG hk e hb) (own_lt h.heads b hb)
  · exact h.gg
  · exact h.gv
  · intro j hj b hb
    by_cases ej : j = k
    · subst ej
      rw [upd_same] at hb
      rcases hat with hat | ⟨b', hb', hle⟩
      · exact h.tn j hj b (hat ▸ hb)
      · rw [hb'] at hb
        injection hb with hb
        have := h.far.size
        exact .inr (by omega)
    · rw [upd_other _ _ ej] at hb
      exact h.tn j hj b hb
  · refine h.far.grown hg fun b hb => ?_
    rcases h.tn k hk b hb with h1 | h1
    · exact .inl ⟨k, hk, h1⟩
    · exact .inr h1

/-- List k stands among those that were gone on with. -/
theorem Two.push (h : Two K w0 w N g n k 6 hd V T ln G) (hk : k < n) {G1 : Value} (hr : w1.ownsRow w0.heap.size K.H 1 G1 (k + 1) (encs (fun x : Option Addr × Nat × Nat => Value.slice x.1 x.2.1 x.2.2) (((List.range k).map fun j => hdOf (T j)) ++ [hdOf (T k)]))) (hg : w.grownBy w1 G.ownBlock)
    (hat : G1.ownBlock = G.ownBlock ∨ ∃ b, G1.ownBlock = some b ∧ w.heap.size ≤ b) : Two K w0 w1 N g n (k + 1) 0 hd V T ln G1 := by
  have old : ∀ b, G.ownBlock ≠ some b → b < w.heap.size → w1.heap[b]? = w.heap[b]? := fun b hb hl => hg.block b hl (fun e => hb e.symm)
  have lt_V : ∀ j, j < n → ∀ b, (V j).ownBlock = some b → b < w.heap.size := fun j hj b hb => h.ltV hj hb
  have lt_g : g < w.heap.size := World.block_lt_of_cell? _ _ (h.cell k hk)
  constructor
  · exact h.gN
  · intro j hj
    exact (World.cell?_of_block (a := ⟨g, hd j, none⟩) (old g h.gg lt_g)).trans (h.cell j hj)
  · intro j hj
    exact (h.form j hj).imp id fun ⟨b, c, hv, hl⟩ => ⟨b, c, hv, Nat.lt_of_lt_of_le hl hg.size⟩
  · intro j hj b hv i hi q u hq
    refine Eq.trans ?_ (h.read j hj b hv i hi q u hq)
    exact World.cell?_of_block (a := ⟨b, i * K.sz + q, none⟩) (old b (h.gv j hj b hv) (lt_V j hj b hv))
  · intro j hj
    rw [extra_six]
    exact (h.row j hj).move fun b hb => old b (h.apartG hj hb) (own_lt (h.own hj) b hb)
  · intro j hj
    exact h.same j (.inl (by omega))
  · exact h.ne
  · exact h.nv
  · exact h.neg
  · rw [List.range_succ, List.map_append]
    exact hr
  · rcases hat with hat | ⟨b, hb, hle⟩
    · rw [hat]
      exact h.gg
    · rw [hb]
      intro e
      injection e with e
      omega
  · intro j hj b hb
    rcases hat with hat | ⟨b', hb', hle⟩
    · rw [hat]
      exact h.gv j hj b hb
    · rw [hb']
      intro e
      injection e with e
      have := lt_V j hj b hb
      omega
  · exact h.tn
  · exact h.far.grown hg fun b hb => .inr (own_base h.heads b hb)
theorem Two.start {X Y : Nat → List α} (h : One K w0 w N g n n 0 hd V X Y) : Two K w0 w N g n 0 0 hd V V (fun j => (X j).length) (.slice none 0 0) := by
  have hY : ∀ j, j < n → Y j = marks K (X j).length j (X j).length := h.done
  have hrow : ∀ j, j < n → K.RS w N (V j) (marks K (X j).length j (X j).length) := fun j hj => by
    rw [← hY j hj]
    exact h.rows.row j hj
  have hown : ∀ j, j < n → w.ownsRow N K.E K.sz (V j) (X j).length (K.flat (marks K (X j).length j (X j).length)) := by
    intro j hj
    have := hrow j hj
    unfold EK.RS at this
    rwa [marks_length] at this
  constructor
  · exact h.rows.gN
  · exact h.rows.cell
  · intro j hj
    rcases (hown j hj).2 with ⟨hv, h0⟩ | ⟨b, c, cur, hv, hb, hh, _⟩
    · exact .inl ⟨hv, h0⟩
    · exact .inr ⟨b, c, hv, own_lt (hown j hj) b (by rw [hv]; rfl)⟩
  · intro j hj b hv i hi
    obtain ⟨b', c, h1, _, h3, _⟩ := (hrow j hj).hit (marks_at (K := K) (X j).length j (X j).length i hi)
    rw [h1] at hv
    have e : b' = b := by simpa [Value.ownBlock] using hv
    subst e
    exact h3
  · intro j hj
    rw [extra_none, Nat.add_zero]
    exact hrow j hj
  · exact fun _ _ => rfl
  · exact h.rows.ne
  · exact h.rows.ne
  · exact h.rows.neg
  · exact own_nil _ _ _ _
  · simp [Value.ownBlock]
  · intro j hj b _
    simp [Value.ownBlock]
  · exact fun j hj b hb => .inl hb
  · exact h.far
/-- What the third loop reads. -/
theorem Two.third (h : Two K w0 w N g n n 0 hd V T ln G) (hk : k < n) :
    ∃ bG cG bT cT, G = .slice (some ⟨bG, 0, none⟩) n cG ∧ w.cell? ⟨bG, k, none⟩ = some (.slice (some ⟨bT, 0, none⟩) (ln k + 6) cT) ∧ ∀ i, i < ln k + 6 → w.rangeAt bT (i * K.sz) (K.enc (K.mrk (ln k) k i)) := by
  have hex : extra n 0 k = 6 := by simp [extra, hk]
  have hrT := h.row k hk
  rw [hex] at hrT
  rcases h.heads.2 with ⟨_, h0⟩ | ⟨bG, cG, cur2, hG, _, _⟩
  · omega
  obtain ⟨bT, cT, hT, _, _, _⟩ := hrT.hit (marks_at (K := K) (ln k) k (ln k + 6) 0 (by omega))
  rw [marks_length] at hT
  refine ⟨bG, cG, bT, cT, hG, ?_, fun i hi => ?_⟩
  · have h1 := h.heads.cells (g := bG) (by rw [hG]; rfl) k (.slice (some ⟨bT, 0, none⟩) (ln k + 6) cT) (by simp [encs, hk, hT, hdOf])
    rwa [add_plain] at h1
  · obtain ⟨b', c', hT', _, h3, _⟩ := hrT.hit (marks_at (K := K) (ln k) k (ln k + 6) i hi)
    rw [hT] at hT'
    obtain rfl : bT = b' := by
      injection hT' with h1
      injection h1 with h1
      injection h1
    exact h3
/-- The row behind list k, as the append's law asks it. -/
theorem Two.own1 (h : Two K w0 w N g n k p hd V T ln G) (hk : k < n) {len c1 : Nat} {A1 : Option Addr} (hl : ln k = len) (hT : T k = .slice A1 (len + p) c1) :
    w.ownsRow N K.E K.sz (.slice A1 (len + p) c1) (len + p) (K.flat (marks K len k (len + p))) := by
  have := h.own hk
  rw [hT, hl, extra_self] at this
  exact this
theorem Two.app1 (h : Two K w0 w N g n k p hd V T ln G) (hk : k < n) {len c1 : Nat} {A1 : Option Addr} {v1 : Value} (hl : ln k = len) (hT : T k = .slice A1 (len + p) c1)
    (ho : w1.ownsRow N K.E K.sz v1 (len + p + 1) (K.flat (marks K len k (len + p)) ++ K.enc (K.mrk len k (len + p)))) (hg : w.grownBy w1 (Value.slice A1 (len + p) c1).ownBlock)
    (hat : v1.ownBlock = (Value.slice A1 (len + p) c1).ownBlock ∨ ∃ b, v1.ownBlock = some b ∧ w.heap.size ≤ b) (hkeep : ∀ b q, (Value.slice A1 (len + p) c1).ownBlock = some b → q < (len + p) * K.sz → w1.cell? ⟨b, q, none⟩ = w.cell? ⟨b, q, none⟩) :
    ∃ A2 c2, v1 = .slice A2 (len + (p + 1)) c2 ∧ (upd T k v1) k = .slice A2 (len + (p + 1)) c2 ∧ Two K w0 w1 N g n k (p + 1) hd V (upd T k v1) ln G := by
  subst hl
  rw [flat_succ] at ho
  rw [← hT] at hg hat hkeep
  have h2 := h.app hk ho hg hat hkeep
  obtain ⟨A2, c2, e⟩ := h2.formT hk
  rw [extra_self] at e
  exact ⟨A2, c2, (upd_same T k v1).symm.trans e, e, h2⟩
theorem Two.push1 (h : Two K w0 w N g n k 6 hd V T ln G) (hk : k < n) {len c1 : Nat} {A1 : Option Addr} {G1 : Value} (hT : T k = .slice A1 (len + 6) c1)
    (hr : w1.ownsRow w0.heap.size K.H 1 G1 (k + 1) (encs (fun x : Option Addr × Nat × Nat => Value.slice x.1 x.2.1 x.2.2) ((List.range k).map fun j => hdOf (T j)) ++ [.slice A1 (len + 6) c1])) (hg : w.grownBy w1 G.ownBlock)
    (hat : G1.ownBlock = G.ownBlock ∨ ∃ b, G1.ownBlock = some b ∧ w.heap.size ≤ b) : Two K w0 w1 N g n (k + 1) 0 hd V T ln G1 := by
  refine h.push hk ?_ hg hat
  rw [encs_append]
  have e : encs (fun x : Option Addr × Nat × Nat => Value.slice x.1 x.2.1 x.2.2) [hdOf (T k)] = [.slice A1 (len + 6) c1] := by rw [hT]; rfl
  rw [e]
  exact hr
end
end Go.Proofs.Ytochgkepaleblaa.Rowz
