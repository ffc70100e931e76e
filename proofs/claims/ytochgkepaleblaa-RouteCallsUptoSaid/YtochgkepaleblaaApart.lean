/- ApartTexts: lists of strings that lie apart are told apart. -/
import Derived.Test.YtochgkepaleblaaBasex
import Derived.Test.YtochgkepaleblaaApp
import Derived.Deep.RegionHeld3
import Derived.IntWalk
set_option linter.unusedVariables false
set_option linter.unusedSimpArgs false
namespace Go.Proofs.Ytochgkepaleblaa.Apart
open Go.RowKit Go.Proofs.Ytochgkepaleblaa.Base Go.Proofs.YtochgkepaleblaaW.PrintWords Go.Proofs.YtochgkepaleblaaW.PrintLast Go.Proofs.YtochgkepaleblaaW.PrintMore

abbrev RS (w : World) (N : Nat) (v : Value) (xs : List ByteArray) : Prop := Kd.R Kd.string 9 w N (fun _ => True) v xs
def mark (k i : Nat) : ByteArray := (undercroftkit_markTexts.f (k + 10) i).getD ByteArray.empty
theorem mark_f (k i : Nat) : undercroftkit_markTexts.f ((k : Int) + 10) (i : Int) = some (mark k i) := by
  unfold mark
  have h : ∃ r, undercroftkit_markTexts.f ((k : Int) + 10) (i : Int) = some r := by
    unfold undercroftkit_markTexts.f
    simp only [Option.bind_some]
    exact ⟨_, if_pos (show 4 + 2 ≤ 9223372036854775807 by decide)⟩
  obtain ⟨r, hr⟩ := h
  rw [hr]
  rfl

/-- Lists that lie apart: at block g stand the headers V 0, .., V (n - 1); the rows are own ones, no two in one block. -/
structure Rows (w : World) (N g n : Nat) (V : Nat → Value) (X : Nat → List ByteArray) : Prop where
  gN : N ≤ g
  cell : ∀ j, j < n → w.cell? ⟨g, j, none⟩ = some (V j)
  row : ∀ j, j < n → RS w N (V j) (X j)
  ne : ∀ i j, i < n → j < n → i ≠ j → ∀ b, (V i).ownBlock = some b → (V j).ownBlock ≠ some b
  neg : ∀ j, j < n → (V j).ownBlock ≠ some g

theorem Rows.below {w w1 : World} {N g n : Nat} {V : Nat → Value} {X : Nat → List ByteArray} (h : Rows w N g n V X) (hb : Below w.heap.size w w1) : Rows w1 N g n V X :=
  ⟨h.gN, fun j hj => (hb.cell (p := ⟨g, j, none⟩) (World.block_lt_of_cell? _ _ (h.cell j hj))).trans (h.cell j hj), fun j hj => Kd.R_below (h.row j hj) hb, h.ne, h.neg⟩
theorem Rows.form {w : World} {N g n : Nat} {V : Nat → Value} {X : Nat → List ByteArray} (h : Rows w N g n V X) {j : Nat} (hj : j < n) : ∃ A c, V j = .slice A (X j).length c := Kd.R_slice (h.row j hj)
def upd (X : Nat → List ByteArray) (k : Nat) (l : List ByteArray) : Nat → List ByteArray := fun j => if j = k then l else X j
theorem upd_same (X : Nat → List ByteArray) (k : Nat) (l : List ByteArray) : upd X k l k = l := if_pos rfl
theorem upd_other (X : Nat → List ByteArray) {k j : Nat} (l : List ByteArray) (h : j ≠ k) : upd X k l j = X j := if_neg h

theorem Rows.put {w : World} {N g n b c : Nat} {V : Nat → Value} {X : Nat → List ByteArray} (h : Rows w N g n V X) {k i : Nat} (hk : k < n) (hV : V k = .slice (some ⟨b, 0, none⟩) (X k).length c) (s : ByteArray) :
    Rows (w.setCell ⟨b, i, none⟩ (.string s)) N g n V (upd X k ((X k).set i s)) := by
  have hb : (V k).ownBlock = some b := by rw [hV]; rfl
  refine ⟨h.gN, fun j hj => ?_, fun j hj => ?_, h.ne, h.neg⟩
  · have hne : b ≠ g := fun e => h.neg k hk (by rw [hb, e])
    rw [World.cell?_setCell_other _ _ _ _ (fun e => hne (congrArg Addr.block e))]
    exact h.cell j hj
  · by_cases e : j = k
    · subst e
      rw [upd_same]
      have hr := h.row j hj
      rw [hV] at hr ⊢
      exact (Kd.R_put hr (i : Int) s).1
    · rw [upd_other _ _ e]
      have hr : (Kd.scalar Value.string (fun _ => rfl)).R 9 w N (fun _ => True) (V j) (X j) := h.row j hj
      refine Kd.R_of_own (own_setCell (Kd.own_of_R hr) (fun e' => ?_) _) (fun _ _ => trivial)
      exact h.ne k j hk hj (Ne.symm e) b hb e'.symm
theorem Rows.hit {w : World} {N g n : Nat} {V : Nat → Value} {X : Nat → List ByteArray} (h : Rows w N g n V X) {k i : Nat} (hk : k < n) (hi : i < (X k).length) :
    ∃ b c, V k = .slice (some ⟨b, 0, none⟩) (X k).length c ∧ N ≤ b ∧ b ≠ g ∧ w.cell? ⟨b, i, none⟩ = some (.string ((X k).getD i ByteArray.empty)) ∧ w.frozen? ⟨b, i, none⟩ = false := by
  have hr : (Kd.scalar Value.string (fun _ => rfl)).R 9 w N (fun _ => True) (V k) (X k) := h.row k hk
  rcases (Kd.own_of_R hr).2 with ⟨_, h0⟩ | ⟨b, c, cur, hv, hb, _⟩
  · omega
  · rw [hv] at hr
    have h1 := Kd.R_cell ByteArray.empty hr (i : Int) (by omega) (by omega)
    refine ⟨b, c, hv, hb, fun e => h.neg k hk (by rw [hv, e]; rfl), h1.1, h1.2⟩

/-- The marks of list k: of so many places. -/
def marks (k n : Nat) : List ByteArray := (List.range n).map (mark k)
theorem marks_length (k n : Nat) : (marks k n).length = n := by simp [marks]

structure Keep (p : Prop) : Prop where mk :: (out : p)
theorem Rows.drew {w : World} {N g n : Nat} {V : Nat → Value} {X : Nat → List ByteArray} (h : Rows w N g n V X) : Rows w.drew N g n V X := h.below (Below.refl _ _).drew
def strAt (w : World) (b i : Nat) : ByteArray := match w.cell? ⟨b, i, none⟩ with | some (.string s) => s | _ => ByteArray.empty
theorem strAt_of {w : World} {b i : Nat} {s : ByteArray} (h : w.cell? ⟨b, i, none⟩ = some (.string s)) : w.cell? ⟨b, i, none⟩ = some (.string (strAt w b i)) := by
  unfold strAt
  rw [h]
/-- The lists are these, but for one place. -/
def But (k i : Nat) (Y Z : Nat → List ByteArray) : Prop := ∀ j, (Z j).length = (Y j).length ∧ ∀ q, (j = k → q ≠ i) → (Z j)[q]? = (Y j)[q]?
theorem But.refl (k i : Nat) (Y : Nat → List ByteArray) : But k i Y Y := fun _ => ⟨rfl, fun _ _ => rfl⟩
theorem But.put {k i : Nat} {Y Z : Nat → List ByteArray} (h : But k i Y Z) (s : ByteArray) : But k i Y (upd Z k ((Z k).set i s)) := by
  intro j
  by_cases e : j = k
  · subst e
    rw [upd_same]
    refine ⟨by rw [List.length_set]; exact (h j).1, fun q hq => ?_⟩
    rw [List.getElem?_set_ne (Ne.symm (hq rfl))]
    exact (h j).2 q hq
  · rw [upd_other _ _ e]
    exact h j
def Held (w w' : World) (N g n k i : Nat) (V : Nat → Value) (Y : Nat → List ByteArray) : Prop := ∃ Z, Rows w' N g n V Z ∧ But k i Y Z ∧ Below N w w'
/-- What is held while the mark of a place is made. -/
abbrev Hold (w w' : World) (N g n k b i len cc : Nat) (V : Nat → Value) (Y : Nat → List ByteArray) : Prop :=
  w'.cell? ⟨g, k, none⟩ = some (.slice (some ⟨b, 0, none⟩) len cc) ∧ w'.cell? ⟨b, i, none⟩ = some (.string (strAt w' b i)) ∧ w'.frozen? ⟨b, i, none⟩ = false ∧ Held w w' N g n k i V Y
section
variable {w wr w1 : World} {N g n k b i len cc : Nat} {V : Nat → Value} {Y : Nat → List ByteArray}
theorem Hold.below (h : Hold w wr N g n k b i len cc V Y) (hb : Below wr.heap.size wr w1) : Hold w w1 N g n k b i len cc V Y := by
  obtain ⟨h1, h2, h3, Z, hr, hz, hB⟩ := h
  have e2 : w1.cell? ⟨b, i, none⟩ = some (.string (strAt wr b i)) := (hb.cell (p := ⟨b, i, none⟩) (World.block_lt_of_cell? _ _ h2)).trans h2
  have hs : N ≤ wr.heap.size := Nat.le_trans hr.gN (Nat.le_of_lt (World.block_lt_of_cell? _ _ h1))
  exact ⟨(hb.cell (p := ⟨g, k, none⟩) (World.block_lt_of_cell? _ _ h1)).trans h1, strAt_of e2, (hb.frozen (p := ⟨b, i, none⟩) (World.block_lt_of_cell? _ _ h2)).trans h3, Z, hr.below hb, hz, hB.trans (hb.mono hs)⟩
theorem Hold.drew (h : Hold w wr N g n k b i len cc V Y) : Hold w wr.drew N g n k b i len cc V Y := h.below (Below.refl _ _).drew
theorem Hold.put (h : Hold w wr N g n k b i len cc V Y) (hk : k < n) (hV : V k = .slice (some ⟨b, 0, none⟩) (Y k).length cc) (hbg : b ≠ g) (hNb : N ≤ b) (s : ByteArray) : Hold w (wr.setCell ⟨b, i, none⟩ (.string s)) N g n k b i len cc V Y := by
  obtain ⟨h1, h2, h3, Z, hr, hz, hB⟩ := h
  refine ⟨?_, strAt_of (World.cell?_setCell_same _ _ _ h2), ?_, _, hr.put hk (by rw [hV, (hz k).1]) s, hz.put s, hB.setCell hNb _⟩
  · rw [World.cell?_setCell_other _ _ _ _ (fun e => hbg (congrArg Addr.block e))]
    exact h1
  · rw [World.frozen?_setCell]
    exact h3
end
theorem step1 {w w1 : World} {N g n k b i len cc : Nat} {V : Nat → Value} {X Y : Nat → List ByteArray} (h : Hold w w1 N g n k b i len cc V Y) (hk : k < n) (hV : V k = .slice (some ⟨b, 0, none⟩) (Y k).length cc) (hNb : N ≤ b)
    (HL : ∀ j, j < n → (Y j).length = (X j).length) (HM : ∀ j, j < k → Y j = marks j (X j).length) (HI : ∀ q, q < i → (Y k)[q]? = some (mark k q)) (hi : i < (Y k).length) :
    ∃ Y' : Nat → List ByteArray, Keep (Rows (w1.setCell ⟨b, i, none⟩ (.string (mark k i))) N g n V Y') ∧ Keep (∀ j, j < n → (Y' j).length = (X j).length) ∧ Keep (∀ j, j < k → Y' j = marks j (X j).length) ∧
      Keep (∀ q, q < i + 1 → (Y' k)[q]? = some (mark k q)) ∧ Keep (Below N w (w1.setCell ⟨b, i, none⟩ (.string (mark k i)))) := by
  obtain ⟨_, _, _, Z, hr, hz, hB⟩ := h
  refine ⟨_, ⟨hr.put hk (by rw [hV, (hz k).1]) (mark k i)⟩, ⟨fun j hj => ?_⟩, ⟨fun j hj => ?_⟩, ⟨fun q hq => ?_⟩, ⟨hB.setCell hNb _⟩⟩
  · by_cases e : j = k
    · subst e
      rw [upd_same, List.length_set, (hz j).1, HL j hj]
    · rw [upd_other _ _ e, (hz j).1, HL j hj]
  · rw [upd_other _ _ (by omega), ← HM j hj]
    exact List.ext_getElem? fun q => (hz j).2 q (fun e => by omega)
  · rw [upd_same]
    by_cases e : q = i
    · subst e
      rw [List.getElem?_set_self (by rw [(hz k).1]; exact hi)]
    · rw [List.getElem?_set_ne (Ne.symm e), (hz k).2 q (fun _ => e)]
      exact HI q (by omega)
theorem marks_of {k n : Nat} {l : List ByteArray} (hl : l.length = n) (h : ∀ q, q < n → l[q]? = some (mark k q)) : l = marks k n := by
  apply List.ext_getElem?
  intro q
  by_cases hq : q < n
  · rw [h q hq]
    simp [marks, hq]
  · rw [List.getElem?_eq_none (by omega), List.getElem?_eq_none (by rw [marks_length]; omega)]
theorem end1 {k n : Nat} {X Y : Nat → List ByteArray} (hk : k < n) (HL : ∀ j, j < n → (Y j).length = (X j).length) (HM : ∀ j, j < k → Y j = marks j (X j).length) (HI : ∀ q, q < (X k).length → (Y k)[q]? = some (mark k q)) :
    ∀ j, j < k + 1 → Y j = marks j (X j).length := by
  intro j hj
  by_cases e : j = k
  · subst e
    exact marks_of (HL j hk) HI
  · exact HM j (by omega)
/-! ### The second loop -/
def hdOf : Value → Option Addr × Nat × Nat
  | .slice a l c => (a, l, c)
  | _ => (none, 0, 0)
def hdr : Kd (Option Addr × Nat × Nat) := Kd.scalar (fun x => .slice x.1 x.2.1 x.2.2) (fun _ => rfl)
def updV (T : Nat → Value) (k : Nat) (v : Value) : Nat → Value := fun j => if j = k then v else T j
theorem updV_same (T : Nat → Value) (k : Nat) (v : Value) : updV T k v k = v := if_pos rfl
theorem updV_other (T : Nat → Value) {k j : Nat} (v : Value) (h : j ≠ k) : updV T k v j = T j := if_neg h
def extra (k p j : Nat) : Nat := if j < k then 6 else if j = k then p else 0

/-- Behind k lists that were gone on with, and p marks more at list k: T: the rows as they are now; V: the headers that were told. -/
structure Two (w : World) (N g n k p : Nat) (V T : Nat → Value) (ln : Nat → Nat) (G : Value) : Prop where
  gN : N ≤ g
  cell : ∀ j, j < n → w.cell? ⟨g, j, none⟩ = some (V j)
  form : ∀ j, j < n → (V j = .slice none 0 0 ∧ ln j = 0) ∨ ∃ b c, V j = .slice (some ⟨b, 0, none⟩) (ln j) c ∧ b < w.heap.size
  read : ∀ j, j < n → ∀ b, (V j).ownBlock = some b → ∀ i, i < ln j → w.cell? ⟨b, i, none⟩ = some (.string (mark j i))
  row : ∀ j, j < n → RS w N (T j) (marks j (ln j + extra k p j))
  same : ∀ j, (k < j ∨ j = k ∧ p = 0) → T j = V j
  ne : ∀ i j, i < n → j < n → i ≠ j → ∀ b, (T i).ownBlock = some b → (T j).ownBlock ≠ some b
  nv : ∀ i j, i < n → j < n → i ≠ j → ∀ b, (V i).ownBlock = some b → (T j).ownBlock ≠ some b
  neg : ∀ j, j < n → (T j).ownBlock ≠ some g
  heads : Kd.R hdr 34 w N (fun _ => True) G ((List.range k).map fun j => hdOf (T j))
  gg : G.ownBlock ≠ some g
  gv : ∀ j, j < n → ∀ b, (V j).ownBlock = some b → G.ownBlock ≠ some b
section
variable {w w1 : World} {N g n k p : Nat} {V T : Nat → Value} {ln : Nat → Nat} {G : Value}
theorem Two.below (h : Two w N g n k p V T ln G) (hb : Below w.heap.size w w1) : Two w1 N g n k p V T ln G where
  gN := h.gN
  cell j hj := (hb.cell (p := ⟨g, j, none⟩) (World.block_lt_of_cell? _ _ (h.cell j hj))).trans (h.cell j hj)
  form j hj := (h.form j hj).imp id fun ⟨b, c, hv, hl⟩ => ⟨b, c, hv, Nat.lt_of_lt_of_le hl hb.size⟩
  read j hj b hv i hi := (hb.cell (p := ⟨b, i, none⟩) (World.block_lt_of_cell? _ _ (h.read j hj b hv i hi))).trans (h.read j hj b hv i hi)
  row j hj := Kd.R_below (h.row j hj) hb
  same := h.same
  ne := h.ne
  nv := h.nv
  neg := h.neg
  heads := Kd.R_below h.heads hb
  gg := h.gg
  gv := h.gv
theorem Two.own (h : Two w N g n k p V T ln G) {j : Nat} (hj : j < n) : w.ownsRow N 9 1 (T j) (ln j + extra k p j) (encs Value.string (marks j (ln j + extra k p j))) := by
  have hr : (Kd.scalar Value.string (fun _ => rfl)).R 9 w N (fun _ => True) (T j) (marks j (ln j + extra k p j)) := h.row j hj
  have := Kd.own_of_R hr
  rwa [marks_length] at this
theorem Two.ownG (h : Two w N g n k p V T ln G) : w.ownsRow N 34 1 G k (encs (fun x : Option Addr × Nat × Nat => Value.slice x.1 x.2.1 x.2.2) ((List.range k).map fun j => hdOf (T j))) := by
  have hr : (Kd.scalar (fun x : Option Addr × Nat × Nat => Value.slice x.1 x.2.1 x.2.2) (fun _ => rfl)).R 34 w N (fun _ => True) G ((List.range k).map fun j => hdOf (T j)) := h.heads
  have := Kd.own_of_R hr
  rwa [List.length_map, List.length_range] at this
theorem Two.apartG (h : Two w N g n k p V T ln G) {j : Nat} (hj : j < n) {b : Nat} (hb : (T j).ownBlock = some b) : G.ownBlock ≠ some b := by
  intro e
  obtain ⟨c1, h1⟩ := own_typed (h.own hj) b hb
  obtain ⟨c2, h2⟩ := own_typed h.ownG b e
  rw [h1] at h2
  injection h2 with h2
  injection h2 with _ h2
  exact absurd h2 (by decide)

/-- One mark more behind list k. -/
theorem Two.app (h : Two w N g n k p V T ln G) (hk : k < n) {v1 : Value} (ho : w1.ownsRow N 9 1 v1 (ln k + p + 1) (encs Value.string (marks k (ln k + p + 1)))) (hg : w.grownBy w1 (T k).ownBlock)
    (hat : v1.ownBlock = (T k).ownBlock ∨ ∃ b, v1.ownBlock = some b ∧ w.heap.size ≤ b) (hkeep : ∀ b q, (T k).ownBlock = some b → q < (ln k + p) * 1 → w1.cell? ⟨b, q, none⟩ = w.cell? ⟨b, q, none⟩) :
    Two w1 N g n k (p + 1) V (updV T k v1) ln G := by
  have old : ∀ b, (T k).ownBlock ≠ some b → b < w.heap.size → w1.heap[b]? = w.heap[b]? := fun b hb hl => hg.block b hl (fun e => hb e.symm)
  have hex : ∀ j, j ≠ k → extra k (p + 1) j = extra k p j := by
    intro j hj
    unfold extra
    rw [if_neg hj, if_neg hj]
  have hexk : extra k (p + 1) k = p + 1 := by simp [extra]
  have hexk0 : extra k p k = p := by simp [extra]
  have lt_own : ∀ j, j < n → ∀ b, (T j).ownBlock = some b → b < w.heap.size := fun j hj b hb => own_lt (h.own hj) b hb
  have lt_V : ∀ j, j < n → ∀ b, (V j).ownBlock = some b → b < w.heap.size := by
    intro j hj b hb
    rcases h.form j hj with ⟨hv, _⟩ | ⟨b', c, hv, hl⟩
    · rw [hv] at hb
      cases hb
    · rw [hv] at hb
      have : b' = b := by simpa [Value.ownBlock] using hb
      omega
  have lt_g : 0 < n → g < w.heap.size := fun hn => World.block_lt_of_cell? _ _ (h.cell 0 hn)
  constructor
  · exact h.gN
  · intro j hj
    refine (World.cell?_of_block (a := ⟨g, j, none⟩) ?_).trans (h.cell j hj)
    exact old g (h.neg k hk) (lt_g (by omega))
  · intro j hj
    exact (h.form j hj).imp id fun ⟨b, c, hv, hl⟩ => ⟨b, c, hv, Nat.lt_of_lt_of_le hl hg.size⟩
  · intro j hj b hv i hi
    rw [← h.read j hj b hv i hi]
    by_cases e : (T k).ownBlock = some b
    · by_cases ej : j = k
      · subst ej
        exact hkeep b i e (by omega)
      · exact absurd e (h.nv j k hj hk ej b hv)
    · exact World.cell?_of_block (a := ⟨b, i, none⟩) (old b e (lt_V j hj b hv))
  · intro j hj
    by_cases e : j = k
    · subst e
      rw [updV_same, hexk, ← Nat.add_assoc]
      refine Kd.R_of_own ?_ (fun _ _ => trivial)
      rw [marks_length]
      exact ho
    · rw [updV_other _ _ e, hex j e]
      refine Kd.R_of_own ?_ (fun _ _ => trivial)
      rw [marks_length]
      exact own_move (h.own hj) fun b hb => old b (h.ne j k hj hk e b hb) (lt_own j hj b hb)
  · intro j hj
    rw [updV_other _ _ (by omega)]
    exact h.same j (.inl (by omega))
  · intro i j hi hj hij b hb
    by_cases ei : i = k
    · subst ei
      rw [updV_same] at hb
      rw [updV_other _ _ (Ne.symm hij)]
      rcases hat with hat | ⟨b', hb', hle⟩
      · exact h.ne i j hi hj hij b (hat ▸ hb)
      · intro e
        have := lt_own j hj b e
        rw [hb'] at hb
        injection hb with hb
        omega
    · rw [updV_other _ _ ei] at hb
      by_cases ej : j = k
      · subst ej
        rw [updV_same]
        rcases hat with hat | ⟨b', hb', hle⟩
        · rw [hat]
          exact h.ne i j hi hj hij b hb
        · rw [hb']
          intro e
          injection e with e
          have := lt_own i hi b hb
          omega
      · rw [updV_other _ _ ej]
        exact h.ne i j hi hj hij b hb
  · intro i j hi hj hij b hb
    by_cases ej : j = k
    · subst ej
      rw [updV_same]
      rcases hat with hat | ⟨b', hb', hle⟩
      · rw [hat]
        exact h.nv i j hi hj hij b hb
      · rw [hb']
        intro e
        injection e with e
        have := lt_V i hi b hb
        omega
    · rw [updV_other _ _ ej]
      exact h.nv i j hi hj hij b hb
  · intro j hj
    by_cases ej : j = k
    · subst ej
      rw [updV_same]
      rcases hat with hat | ⟨b', hb', hle⟩
      · rw [hat]
        exact h.neg j hj
      · rw [hb']
        intro e
        injection e with e
        have := lt_g (by omega)
        omega
    · rw [updV_other _ _ ej]
      exact h.neg j hj
  · have e : ((List.range k).map fun j => hdOf (updV T k v1 j)) = (List.range k).map fun j => hdOf (T j) := by
      apply List.map_congr_left
      intro j hj
      rw [updV_other _ _ (by have := List.mem_range.1 hj; omega)]
    rw [e]
    refine Kd.R_of_own ?_ (fun _ _ => trivial)
    rw [List.length_map, List.length_range]
    exact own_move h.ownG fun b hb => old b (fun e => h.apartG hk e hb) (own_lt h.ownG b hb)
  · exact h.gg
  · exact h.gv

theorem Two.formT (h : Two w N g n k p V T ln G) {j : Nat} (hj : j < n) : ∃ A c, T j = .slice A (ln j + extra k p j) c := by
  obtain ⟨A, c, e⟩ := Kd.R_slice (h.row j hj)
  rw [marks_length] at e
  exact ⟨A, c, e⟩
/-- List k stands among those that were gone on with. -/
theorem Two.push (h : Two w N g n k 6 V T ln G) (hk : k < n) {G1 : Value} (hr : Kd.R hdr 34 w1 N (fun _ => True) G1 (((List.range k).map fun j => hdOf (T j)) ++ [hdOf (T k)])) (hg : w.grownBy w1 G.ownBlock)
    (hat : G1.ownBlock = G.ownBlock ∨ ∃ b, G1.ownBlock = some b ∧ w.heap.size ≤ b) : Two w1 N g n (k + 1) 0 V T ln G1 := by
  have old : ∀ b, G.ownBlock ≠ some b → b < w.heap.size → w1.heap[b]? = w.heap[b]? := fun b hb hl => hg.block b hl (fun e => hb e.symm)
  have hex : ∀ j, extra (k + 1) 0 j = extra k 6 j := by
    intro j
    unfold extra
    by_cases h1 : j < k
    · rw [if_pos h1, if_pos (by omega)]
    · rw [if_neg h1]
      by_cases h2 : j = k
      · rw [if_pos (by omega), if_pos h2]
      · rw [if_neg (by omega), if_neg h2]
        split <;> rfl
  have lt_V : ∀ j, j < n → ∀ b, (V j).ownBlock = some b → b < w.heap.size := by
    intro j hj b hb
    rcases h.form j hj with ⟨hv, _⟩ | ⟨b', c, hv, hl⟩
    · rw [hv] at hb
      cases hb
    · rw [hv] at hb
      have : b' = b := by simpa [Value.ownBlock] using hb
      omega
  have lt_g : g < w.heap.size := World.block_lt_of_cell? _ _ (h.cell k hk)
  constructor
  · exact h.gN
  · intro j hj
    exact (World.cell?_of_block (a := ⟨g, j, none⟩) (old g h.gg lt_g)).trans (h.cell j hj)
  · intro j hj
    exact (h.form j hj).imp id fun ⟨b, c, hv, hl⟩ => ⟨b, c, hv, Nat.lt_of_lt_of_le hl hg.size⟩
  · intro j hj b hv i hi
    rw [← h.read j hj b hv i hi]
    exact World.cell?_of_block (a := ⟨b, i, none⟩) (old b (h.gv j hj b hv) (lt_V j hj b hv))
  · intro j hj
    rw [hex]
    refine Kd.R_of_own ?_ (fun _ _ => trivial)
    rw [marks_length]
    exact own_move (h.own hj) fun b hb => old b (h.apartG hj hb) (own_lt (h.own hj) b hb)
  · intro j hj
    exact h.same j (.inl (by omega))
  · exact h.ne
  · exact h.nv
  · exact h.neg
  · rw [List.range_succ, List.map_append]
    exact hr
  · rcases hat with hat | ⟨b, hb, hle⟩
    · rw [hat]
      exact h.gg
    · rw [hb]
      intro e
      injection e with e
      omega
  · intro j hj b hb
    rcases hat with hat | ⟨b', hb', hle⟩
    · rw [hat]
      exact h.gv j hj b hb
    · rw [hb']
      intro e
      injection e with e
      have := lt_V j hj b hb
      omega
theorem Two.start {Y : Nat → List ByteArray} (h : Rows w N g n V Y) (hY : ∀ j, j < n → Y j = marks j (ln j)) : Two w N g n 0 0 V V ln (.slice none 0 0) := by
  have hex : ∀ j, extra 0 0 j = 0 := by
    intro j
    unfold extra
    split
    · omega
    · split <;> rfl
  have hown : ∀ j, j < n → w.ownsRow N 9 1 (V j) (ln j) (encs Value.string (marks j (ln j))) := by
    intro j hj
    have hr : (Kd.scalar Value.string (fun _ => rfl)).R 9 w N (fun _ => True) (V j) (Y j) := h.row j hj
    rw [hY j hj] at hr
    have := Kd.own_of_R hr
    rwa [marks_length] at this
  constructor
  · exact h.gN
  · exact h.cell
  · intro j hj
    rcases (hown j hj).2 with ⟨hv, h0⟩ | ⟨b, c, cur, hv, hb, hh, _⟩
    · exact .inl ⟨hv, h0⟩
    · exact .inr ⟨b, c, hv, own_lt (hown j hj) b (by rw [hv]; rfl)⟩
  · intro j hj b hv i hi
    rcases (hown j hj).2 with ⟨hv', h0⟩ | ⟨b', c, cur, hv', hb, hh, _⟩
    · rw [hv'] at hv
      cases hv
    · rw [hv'] at hv
      have e : b' = b := by simpa [Value.ownBlock] using hv
      subst e
      have hr : (Kd.scalar Value.string (fun _ => rfl)).R 9 w N (fun _ => True) (V j) (Y j) := h.row j hj
      rw [hY j hj, hv'] at hr
      have hl := marks_length j (ln j)
      rw [← hl] at hr hi
      rw [marks_length] at hr
      have h1 := Kd.R_cell ByteArray.empty (xs := marks j (ln j)) (by rw [marks_length]; exact hr) (i : Int) (by omega) (by omega)
      have h2 := h1.1
      rw [Int.toNat_natCast] at h2
      rw [h2]
      rw [marks_length] at hi
      simp [rdOf, marks, List.getD_eq_getElem?_getD, hi]
  · intro j hj
    rw [hex, Nat.add_zero, ← hY j hj]
    exact h.row j hj
  · exact fun _ _ => rfl
  · exact h.ne
  · exact h.ne
  · exact h.neg
  · exact Kd.R_nil _ _ _ _ _
  · simp [Value.ownBlock]
  · intro j hj b _
    simp [Value.ownBlock]
end
theorem marks_succ (k n : Nat) : marks k (n + 1) = marks k n ++ [mark k n] := by simp [marks, List.range_succ]
theorem encs_succ (k n : Nat) : encs Value.string (marks k n) ++ [Value.string (mark k n)] = encs Value.string (marks k (n + 1)) := by
  rw [marks_succ, encs_append]
  rfl
theorem own1 {w : World} {N g n k p len c1 : Nat} {V T : Nat → Value} {ln : Nat → Nat} {G : Value} {A1 : Option Addr} (h : Two w N g n k p V T ln G) (hk : k < n) (hl : ln k = len) (hT : T k = .slice A1 (len + p) c1) :
    w.ownsRow N 9 1 (.slice A1 (len + p) c1) (len + p) (encs Value.string (marks k (len + p))) := by
  have := h.own hk
  rw [hT, hl, show extra k p k = p by simp [extra]] at this
  exact this
theorem app1 {w w1 : World} {N g n k p len c1 : Nat} {V T : Nat → Value} {ln : Nat → Nat} {G v1 : Value} {A1 : Option Addr} (h : Two w N g n k p V T ln G) (hk : k < n) (hl : ln k = len) (hT : T k = .slice A1 (len + p) c1)
    (ho : w1.ownsRow N 9 1 v1 (len + p + 1) (encs Value.string (marks k (len + p)) ++ [Value.string (mark k (len + p))])) (hg : w.grownBy w1 (Value.slice A1 (len + p) c1).ownBlock)
    (hat : v1.ownBlock = (Value.slice A1 (len + p) c1).ownBlock ∨ ∃ b, v1.ownBlock = some b ∧ w.heap.size ≤ b) (hkeep : ∀ b q, (Value.slice A1 (len + p) c1).ownBlock = some b → q < (len + p) * 1 → w1.cell? ⟨b, q, none⟩ = w.cell? ⟨b, q, none⟩) :
    ∃ A2 c2, v1 = .slice A2 (len + (p + 1)) c2 ∧ (updV T k v1) k = .slice A2 (len + (p + 1)) c2 ∧ Two w1 N g n k (p + 1) V (updV T k v1) ln G := by
  subst hl
  rw [encs_succ] at ho
  rw [← hT] at hg hat hkeep
  have h2 := h.app hk ho hg hat hkeep
  obtain ⟨A2, c2, e⟩ := h2.formT hk
  rw [show extra k (p + 1) k = p + 1 by simp [extra]] at e
  exact ⟨A2, c2, (updV_same T k v1).symm.trans e, e, h2⟩
/-- What the third loop reads. -/
theorem third {w : World} {N g n k : Nat} {V T : Nat → Value} {ln : Nat → Nat} {G : Value} (h : Two w N g n n 0 V T ln G) (hk : k < n) :
    ∃ bG cG bT cT, G = .slice (some ⟨bG, 0, none⟩) n cG ∧ w.cell? ⟨bG, k, none⟩ = some (.slice (some ⟨bT, 0, none⟩) (ln k + 6) cT) ∧ ∀ i, i < ln k + 6 → w.cell? ⟨bT, i, none⟩ = some (.string (mark k i)) := by
  have hex : extra n 0 k = 6 := by simp [extra, hk]
  have hTo := h.own hk
  rw [hex] at hTo
  have hrT : (Kd.scalar Value.string (fun _ => rfl)).R 9 w N (fun _ => True) (T k) (marks k (ln k + 6)) := by
    have := h.row k hk
    rw [hex] at this
    exact this
  rcases hTo.2 with ⟨_, h0⟩ | ⟨bT, cT, cur, hT, _, _⟩
  · omega
  have hrG : (Kd.scalar (fun x : Option Addr × Nat × Nat => Value.slice x.1 x.2.1 x.2.2) (fun _ => rfl)).R 34 w N (fun _ => True) G ((List.range n).map fun j => hdOf (T j)) := h.heads
  have hlen : ((List.range n).map fun j => hdOf (T j)).length = n := by simp
  rcases h.ownG.2 with ⟨_, h0⟩ | ⟨bG, cG, cur2, hG, _, _⟩
  · omega
  refine ⟨bG, cG, bT, cT, hG, ?_, fun i hi => ?_⟩
  · rw [hG] at hrG
    have h1 := Kd.R_cell (xs := (List.range n).map fun j => hdOf (T j)) (none, 0, 0) (by rw [hlen]; exact hrG) (k : Int) (by omega) (by rw [hlen]; omega)
    have h2 := h1.1
    rw [Int.toNat_natCast] at h2
    rw [h2]
    simp [rdOf, List.getD_eq_getElem?_getD, hk, hT, hdOf]
  · rw [hT] at hrT
    have h1 := Kd.R_cell ByteArray.empty (xs := marks k (ln k + 6)) (by rw [marks_length]; exact hrT) (i : Int) (by omega) (by rw [marks_length]; omega)
    have h2 := h1.1
    rw [Int.toNat_natCast] at h2
    rw [h2]
    simp [rdOf, marks, List.getD_eq_getElem?_getD, hi]
theorem hold3 {w wr w1 : World} {N g n : Nat} {V T : Nat → Value} {ln : Nat → Nat} {G : Value} (hb : Below wr.heap.size wr w1) (hg : g < wr.heap.size) (h : Keep (Two wr N g n n 0 V T ln G) ∧ Keep (Below N w wr)) :
    Keep (Two w1 N g n n 0 V T ln G) ∧ Keep (Below N w w1) := ⟨⟨h.1.out.below hb⟩, ⟨h.2.out.trans (hb.mono (Nat.le_trans h.1.out.gN (Nat.le_of_lt hg)))⟩⟩
theorem hc3 {wr w1 : World} {p o : Nat} {v : Value} (hb : Below wr.heap.size wr w1) (h : wr.cell? ⟨p, o, none⟩ = some v) : w1.cell? ⟨p, o, none⟩ = some v := (hb.cell (p := ⟨p, o, none⟩) (World.block_lt_of_cell? _ _ h)).trans h
theorem hd3 {wr : World} {p o : Nat} {v : Value} (h : wr.cell? ⟨p, o, none⟩ = some v) : wr.drew.cell? ⟨p, o, none⟩ = some v := hc3 (Below.refl _ _).drew h
theorem mark_f2 (k l p : Nat) : undercroftkit_markTexts.f ((k : Int) + 10) ((l : Int) + (p : Int)) = some (mark k (l + p)) := by
  rw [← Int.natCast_add]
  exact mark_f k (l + p)
theorem info34 : (Try.prog.info? 34).map (fun i => (i.zero, i.size, i.bytes)) = some (some (.slice none 0 0), 1, 24) := by kernel_rfl
set_option maxHeartbeats 4000000 in
set_option maxRecDepth 100000 in
theorem apart (w : World) (N g n c : Nat) (V : Nat → Value) (X : Nat → List ByteArray) (hN : N ≤ w.heap.size) (hn : n ≤ 1000000) (hX : ∀ j, j < n → (X j).length ≤ 1000000) (h : Rows w N g n V X) :
    Calls Try.prog 26 #[.slice (some ⟨g, 0, none⟩) n c] w fun e w' => e = .returned (.bool true) ∧ Below N w w' := by
  have HR := Keep.mk h
  have HX := Keep.mk hX
  clear h hX
  go_enter Try.func26, Try.ntmps26
  go_wp2
  go_loopw [3] (fun v3 w' => ∃ (k : Nat) (Y : Nat → List ByteArray), k ≤ n ∧ v3 = .int .i64 k ∧ Keep (Rows w' N g n V Y) ∧ Keep (∀ j, j < n → (Y j).length = (X j).length) ∧ Keep (∀ j, j < k → Y j = marks j (X j).length) ∧ Keep (Below N w w')) (fun v3 _ => n - (intOf v3).toNat)
  case atStart => exact ⟨0, X, Nat.zero_le _, rfl, HR, ⟨fun _ _ => rfl⟩, ⟨fun j hj => by omega⟩, ⟨Below.refl _ _⟩⟩
  case round =>
    clear HR
    obtain ⟨k, Y, hk, rfl, HR, HL, HM, HB⟩ := hrel
    by_cases hlt : k < n
    · obtain ⟨A, cc, hv0⟩ := HR.out.form hlt
      rw [HL.out k hlt] at hv0
      have hXk := HX.out k hlt
      have hv := Keep.mk hv0
      clear hv0
      obtain ⟨wo, hwo⟩ : ∃ wo : World, wo = wr := ⟨_, rfl⟩
      subst hwo
      generalize hlen : (X k).length = len at *
      have Hlen := Keep.mk hlen
      clear hlen
      go_wp2
      go_loopw [4] (fun v4 w' => ∃ (i : Nat) (Y : Nat → List ByteArray), i ≤ len ∧ v4 = .int .i64 i ∧ Keep (Rows w' N g n V Y) ∧ Keep (∀ j, j < n → (Y j).length = (X j).length) ∧ Keep (∀ j, j < k → Y j = marks j (X j).length) ∧ Keep (∀ q, q < i → (Y k)[q]? = some (mark k q)) ∧ Keep (Below N w w')) (fun v4 _ => len - (intOf v4).toNat)
      case atStart => exact ⟨0, Y, Nat.zero_le _, rfl, HR, HL, HM, ⟨fun _ _ => by omega⟩, HB⟩
      case round =>
        clear HR HL HM HB
        obtain ⟨i, Y, hi, rfl, HR, HL, HM, HI, HB⟩ := hrel
        have hc : wr.cell? ⟨g, k, none⟩ = some (.slice A len cc) := (HR.out.cell k hlt).trans (by rw [hv.out])
        have hk0 : (0 : Int) ≤ (k : Int) := Int.natCast_nonneg _
        have hk1 : (k : Int) < (n : Int) := by omega
        by_cases hil : i < len
        · obtain ⟨b, c', hV0, hNb, hbg, hcell, hfz⟩ := HR.out.hit hlt (i := i) (by rw [HL.out k hlt, Hlen.out]; exact hil)
          obtain rfl : A = some ⟨b, 0, none⟩ := by
            have := hv.out.symm.trans hV0
            injection this
          clear hV0
          have hS : Hold w wr N g n k b i len cc V Y := ⟨hc, strAt_of hcell, hfz, Y, HR.out, But.refl _ _ _, HB.out⟩
          have HS := Keep.mk hS
          clear hcell hS
          obtain ⟨_, hcell, _⟩ := HS.out
          have hV := Keep.mk (hv.out.trans (by rw [HL.out k hlt, Hlen.out]) : V k = .slice (some ⟨b, 0, none⟩) (Y k).length cc)
          have hi0 : (0 : Int) ≤ (i : Int) := Int.natCast_nonneg _
          have hi1 : (i : Int) < (len : Int) := by omega
          have hw1 : IntKind.i64.wrap ((k : Int) + 10) = (k : Int) + 10 := IntWalk.i64_in _ (by omega)
          go_wp2
          go_region_held3 (fun w' => w'.cell? ⟨g, k, none⟩ = some (.slice (some ⟨b, 0, none⟩) len cc) ∧ w'.cell? ⟨b, i, none⟩ = some (.string (strAt w' b i)) ∧ w'.frozen? ⟨b, i, none⟩ = false ∧ Held w w' N g n k i V Y)
            (first | exact HS.out | exact HS.out.drew | exact HS.out.drew.below (by assumption) | exact (HS.out.drew.below (by assumption)).put hlt hV.out hbg hNb _)
            (first | (go_at_call 41; (with_reducible refine (undercroftkit_markTexts.calls _ _ _ _ (mark_f k i)).mono ?_); rintro e w1 ⟨rfl, hb⟩))
          have hb1 := hb
          clear hb
          obtain ⟨Y', n1, n2, n3, n4, n5⟩ := step1 (HS.out.drew.below hb1) hlt hV.out hNb HL.out HM.out HI.out (by rw [HL.out k hlt, Hlen.out]; exact hil)
          clear HS hcell hb1 HR HL HM HI HB
          go_wp2
          go_roundw
          case rel => exact ⟨i + 1, Y', by omega, by go_num, n1, n2, n3, n4, n5⟩
          case measure => simp [intOf]; omega
        · go_wp2
          have hii : i = len := by omega
          subst hii
          go_roundw
          case rel => exact ⟨k + 1, Y, by omega, by go_num, HR, HL, ⟨end1 hlt HL.out HM.out (by rw [Hlen.out]; exact HI.out)⟩, HB⟩
          case measure => simp [intOf]; omega
    · have hkn : n = k := by omega
      subst hkn
      have HT0 := Keep.mk (Two.start (ln := fun j => (X j).length) HR.out HM.out)
      have HX' : Keep (∀ j, j < n → (fun j => (X j).length) j ≤ 1000000) := HX
      clear HR HL HM HX
      generalize (fun j => (X j).length) = ln at HT0 HX'
      have HX := HX'
      clear HX' hlt hk
      obtain ⟨wo, hwo⟩ : ∃ wo : World, wo = wr := ⟨_, rfl⟩
      subst hwo
      go_wp2
      go_loopw [5, 6] (fun v5 v6 w' => ∃ (k : Nat) (T : Nat → Value), k ≤ n ∧ v6 = .int .i64 k ∧ Keep (Two w' N g n k 0 V T ln v5) ∧ Keep (Below N w w')) (fun _ v6 _ => n - (intOf v6).toNat)
      case atStart => exact ⟨0, V, Nat.zero_le _, rfl, HT0, HB⟩
      case round =>
        clear HT0 HB
        obtain ⟨k, T, hk, rfl, HT, HB⟩ := hrel
        by_cases hlt : k < n
        · obtain ⟨A0, c0, hT0⟩ := HT.out.formT hlt
          have hex : extra k 0 k = 0 := by simp [extra]
          rw [hex, Nat.add_zero] at hT0
          have hV0 := Keep.mk ((HT.out.same k (.inr ⟨rfl, rfl⟩)).symm.trans hT0)
          have hT1 := Keep.mk hT0
          clear hT0 hex
          have hc := (HT.out.cell k hlt).trans (by rw [hV0.out])
          have hk0 : (0 : Int) ≤ (k : Int) := Int.natCast_nonneg _
          have hk1 : (k : Int) < (n : Int) := by omega
          have hln := HX.out k hlt
          generalize hl : ln k = len at hc hT1 hV0 hln
          have Hl := Keep.mk hl
          clear hl
          obtain ⟨wo2, hwo2⟩ : ∃ wo : World, wo = wr := ⟨_, rfl⟩
          subst hwo2
          go_wp2
          go_loopw [7, 8] (fun v7 v8 w' => ∃ (p : Nat) (T : Nat → Value) (A1 : Option Addr) (c1 : Nat), p ≤ 6 ∧ v8 = .int .i64 p ∧ v7 = .slice A1 (len + p) c1 ∧ Keep (T k = .slice A1 (len + p) c1) ∧ Keep (Two w' N g n k p V T ln u5) ∧ Keep (Below N w w')) (fun _ v8 _ => 6 - (intOf v8).toNat)
          case atStart => exact ⟨0, T, A0, c0, by omega, rfl, rfl, hT1, HT, HB⟩
          case round =>
            clear HT HB hT1 hc
            obtain ⟨p, T, A1, c1, hp, rfl, rfl, hT1, HT, HB⟩ := hrel
            have hc : wr.cell? ⟨g, k, none⟩ = some (.slice A0 len c0) := (HT.out.cell k hlt).trans (by rw [hV0.out])
            by_cases hp6 : p < 6
            · have hsN : N ≤ wr.heap.size := Nat.le_trans hN HB.out.size
              go_wp2_with (first | (go_at_call 41; (with_reducible refine (undercroftkit_markTexts.calls _ _ _ _ (mark_f2 k len p)).mono ?_); rintro e w2 ⟨rfl, hb⟩; have HT2 := Keep.mk (HT.out.below hb); have HB2 := Keep.mk (HB.out.trans (hb.mono hsN)); clear hb) | ((with_reducible refine gate_builtin (b := .append) (xs := #[.tmp 50, .tmp 61]) rfl ?_); at_builtin; refine App.append_keep (w0 := w) N rfl (.tmp 50) (.tmp 61) 34 9 (.string ⟨#[]⟩) 1 16 rfl Try.underlying34 Base.info9 rfl (by decide) (by decide) (.slice A1 (len + p) c1) (len + p) (encs Value.string (marks k (len + p))) [.string (mark k (len + p))] rfl rfl rfl ?a1 ?a2 HB2.out ?a3 ?a4 ?_; (case a1 => exact (by simp [Value.oneCell'])); (case a2 => exact own1 HT2.out hlt Hl.out hT1.out); (case a3 => exact Nat.le_trans hN HB2.out.size); (case a4 => omega); intro v1 w1 ho hB hg hat hkk; have HA := Keep.mk (app1 HT2.out hlt Hl.out hT1.out ho hg hat hkk); have HB3 := Keep.mk hB; clear ho hg hat hkk hB))
              obtain ⟨A2, c2, rfl, e2, hT3⟩ := HA.out
              have HT3 := Keep.mk hT3
              have hT4 := Keep.mk e2
              clear hT3 e2 HA HT2 HB2 HT HB hT1
              go_roundw
              case rel => exact ⟨p + 1, _, A2, c2, by omega, by go_num, by simp [Nat.add_assoc], hT4, HT3, HB3⟩
              case measure => simp [intOf]; omega
            · obtain rfl : p = 6 := by omega
              have hsN : N ≤ wr.heap.size := Nat.le_trans hN HB.out.size
              go_wp2_with (first | ((with_reducible refine gate_builtin (b := .append) (xs := #[.tmp 63, .tmp 65]) rfl ?_); at_builtin; refine Kd.R_append hdr (w0 := w) N rfl (.tmp 63) (.tmp 65) 44 34 (.slice none 0 0) 24 rfl Try.underlying44 info34 rfl (by decide) (by decide) u5 ((List.range k).map fun j => hdOf (T j)) (hdOf (T k)) [.slice A1 (len + 6) c1] (fun _ => True) (fun _ => False) rfl rfl ?aP (fun _ hk => hk.elim) ?aF ?aO HB.out ?aS ?aL ?_; (case aP => rw [hT1.out]; rfl); (case aF => exact fun _ _ => trivial); (case aO => exact HT.out.heads); (case aS => exact hsN); (case aL => simp; omega); intro v1 w1 ho hB hg hat; have HA := Keep.mk (HT.out.push hlt ho hg hat); have HB3 := Keep.mk hB; clear ho hg hat hB))
              clear HT HB hT1
              go_roundw
              case rel => exact ⟨k + 1, T, by omega, by go_num, HA, HB3⟩
              case measure => simp [intOf]; omega
        · have hkn : n = k := by omega
          subst hkn
          clear hk hlt
          obtain ⟨wo3, hwo3⟩ : ∃ wo : World, wo = wr := ⟨_, rfl⟩
          subst hwo3
          go_wp2
          go_loopw [9] (fun v9 w' => ∃ k : Nat, k ≤ n ∧ v9 = .int .i64 k ∧ Keep (Two w' N g n n 0 V T ln u5) ∧ Keep (Below N w w')) (fun v9 _ => n - (intOf v9).toNat)
          case atStart => exact ⟨0, Nat.zero_le _, rfl, HT, HB⟩
          case round =>
            clear HT HB
            obtain ⟨k, hk, rfl, HT, HB⟩ := hrel
            by_cases hlt : k < n
            · obtain ⟨bG, cG, bT, cT, rfl, hcG, hcT⟩ := third HT.out hlt
              have hln := HX.out k hlt
              clear hcG hcT
              have hk0 : (0 : Int) ≤ (k : Int) := Int.natCast_nonneg _
              have hk1 : (k : Int) < (n : Int) := by omega
              obtain ⟨wo4, hwo4⟩ : ∃ wo : World, wo = wr := ⟨_, rfl⟩
              subst hwo4
              go_wp2
              go_loopw [10] (fun v10 w' => ∃ i : Nat, i ≤ ln k + 6 ∧ v10 = .int .i64 i ∧ Keep (Two w' N g n n 0 V T ln (.slice (some ⟨bG, 0, none⟩) n cG)) ∧ Keep (Below N w w')) (fun v10 _ => ln k + 6 - (intOf v10).toNat)
              case atStart => exact ⟨0, Nat.zero_le _, rfl, HT, HB⟩
              case round =>
                clear HT HB
                obtain ⟨i, hi, rfl, HT, HB⟩ := hrel
                obtain ⟨bG', cG', bT, cT, hGe, hcG, hcT⟩ := third HT.out hlt
                obtain ⟨rfl, rfl⟩ : bG' = bG ∧ cG' = cG := by
                  simp only [Value.slice.injEq, Option.some.injEq, Addr.mk.injEq] at hGe
                  exact ⟨hGe.1.1.symm, hGe.2.2.symm⟩
                clear hGe
                have hw1 : IntKind.i64.wrap ((k : Int) + 10) = (k : Int) + 10 := IntWalk.i64_in _ (by omega)
                have hi0 : (0 : Int) ≤ (i : Int) := Int.natCast_nonneg _
                by_cases hil : i < ln k + 6
                · have hci := hcT i hil
                  clear hcT
                  have hg : g < wr.heap.size := World.block_lt_of_cell? _ _ (HT.out.cell k hlt)
                  have hH := Keep.mk (And.intro HT HB)
                  obtain ⟨AV, cV, hV⟩ : ∃ AV cV, V k = .slice AV (ln k) cV := by
                    rcases HT.out.form k hlt with ⟨h1, h2⟩ | ⟨b, c', h1, _⟩
                    · exact ⟨none, 0, by rw [h1, h2]⟩
                    · exact ⟨_, _, h1⟩
                  have hcv := (HT.out.cell k hlt).trans (by rw [hV])
                  by_cases hik : i < ln k
                  · obtain ⟨bV, rfl⟩ : ∃ bV, AV = some ⟨bV, 0, none⟩ := by
                      rcases HT.out.form k hlt with ⟨h1, h2⟩ | ⟨b, c', h1, _⟩
                      · omega
                      · rw [hV] at h1
                        injection h1 with h1 _ _
                        exact ⟨b, h1⟩
                    have hvi := HT.out.read k hlt bV (by rw [hV]; rfl) i hik
                    clear hV HT HB
                    generalize ln k = lk at *
                    have hi1 : (i : Int) < (lk : Int) := by omega
                    have hi2 : (i : Int) < ((lk + 6 : Nat) : Int) := by omega
                    go_wp2
                    go_region_held3 (fun w' => w'.cell? ⟨g, k, none⟩ = some (.slice (some ⟨bV, 0, none⟩) lk cV) ∧ w'.cell? ⟨bG', k, none⟩ = some (.slice (some ⟨bT, 0, none⟩) (lk + 6) cT) ∧ w'.cell? ⟨bT, i, none⟩ = some (.string (mark k i)) ∧ w'.cell? ⟨bV, i, none⟩ = some (.string (mark k i)) ∧ Keep (Two w' N g n n 0 V T ln (.slice (some ⟨bG', 0, none⟩) n cG')) ∧ Keep (Below N w w'))
                      (first | exact ⟨hcv, hcG, hci, hvi, hH.out⟩ | exact ⟨hd3 hcv, hd3 hcG, hd3 hci, hd3 hvi, hold3 (Below.refl _ _).drew hg hH.out⟩ | exact ⟨hc3 (by assumption) (hd3 hcv), hc3 (by assumption) (hd3 hcG), hc3 (by assumption) (hd3 hci), hc3 (by assumption) (hd3 hvi), hold3 (wr := wr.drew) (by assumption) hg (hold3 (Below.refl _ _).drew hg hH.out)⟩)
                      (first | (go_at_call 41; (with_reducible refine (undercroftkit_markTexts.calls _ _ _ _ (mark_f k i)).mono ?_); rintro e w2 ⟨rfl, hb⟩))
                    have hb1 := hb
                    clear hb
                    obtain ⟨hT9, hB9⟩ := hold3 (wr := wr.drew) hb1 hg (hold3 (Below.refl _ _).drew hg hH.out)
                    clear hH hb1 hcv hcG hci hvi
                    go_wp2
                    go_roundw
                    case rel => exact ⟨i + 1, by omega, by go_num, hT9, hB9⟩
                    case measure => simp [intOf]; omega
                  · clear hV HT HB
                    generalize ln k = lk at *
                    have hi1 : ¬ (i : Int) < (lk : Int) := by omega
                    have hi1d : decide ((i : Int) < (lk : Int)) = false := decide_eq_false hi1
                    clear hi1
                    have hi2 : (i : Int) < ((lk + 6 : Nat) : Int) := by omega
                    go_wp2
                    refine wp_region_held_drew (S := fun w' => w'.cell? ⟨g, k, none⟩ = some (.slice AV lk cV) ∧ w'.cell? ⟨bG', k, none⟩ = some (.slice (some ⟨bT, 0, none⟩) (lk + 6) cT) ∧ w'.cell? ⟨bT, i, none⟩ = some (.string (mark k i)) ∧ Keep (Two w' N g n n 0 V T ln (.slice (some ⟨bG', 0, none⟩) n cG')) ∧ Keep (Below N w w')) (by kernel_rfl) ⟨hd3 hcv, hd3 hcG, hd3 hci, hold3 (Below.refl _ _).drew hg hH.out⟩ (fun hHeld => ?_)
                    refine wpAnyH_take (i := 0) (oi := { dst := some 82, op := Op.move (Operand.tmp 5), type := 44, pos := "lists.go:211", after := #[], guard := none }) (v := ?v0) rfl (by kernel_rfl) (by kernel_rfl) (by kernel_rfl) (fun _ _ _ h => h) (Or.inl ⟨by rfl, ?y0⟩) (by assumption) ?r0
                    case y0 => ((intro w hSw; (try dsimp only at hSw); go_simp) <;> with_reducible rfl)
                    (try simp only [Act.put, List.setIfInBounds_toArray, List.set_cons_zero, List.set_cons_succ])
                    refine wpAnyH_take (i := 1) (oi := { dst := some 83, op := Op.move (Operand.tmp 9), type := 3, pos := "lists.go:211", after := #[], guard := none }) (v := ?v1) rfl (by kernel_rfl) (by kernel_rfl) (by kernel_rfl) (fun _ _ _ h => h) (Or.inl ⟨by rfl, ?y1⟩) (by assumption) ?r1
                    case y1 => ((intro w hSw; (try dsimp only at hSw); go_simp) <;> with_reducible rfl)
                    (try simp only [Act.put, List.setIfInBounds_toArray, List.set_cons_zero, List.set_cons_succ])
                    refine wpAnyH_take (i := 2) (oi := { dst := some 84, op := Op.indexAddr 44 (Operand.tmp 82) (Operand.tmp 83), type := 0, pos := "lists.go:211", after := #[{ on := 0, ground := Ground.data }, { on := 1, ground := Ground.data }], guard := none }) (v := ?v2) rfl (by kernel_rfl) (by kernel_rfl) (by kernel_rfl) (fun _ _ _ h => h) (Or.inl ⟨by rfl, ?y2⟩) (by assumption) ?r2
                    case y2 => ((intro w hSw; (try dsimp only at hSw); go_simp) <;> with_reducible rfl)
                    (try simp only [Act.put, List.setIfInBounds_toArray, List.set_cons_zero, List.set_cons_succ])
                    refine wpAnyH_take (i := 3) (oi := { dst := some 85, op := Op.load 34 (Operand.tmp 84), type := 34, pos := "lists.go:211", after := #[{ on := 2, ground := Ground.data }], guard := none }) (v := ?v3) rfl (by kernel_rfl) (by kernel_rfl) (by kernel_rfl) (fun _ _ _ h => h) (Or.inl ⟨by rfl, ?y3⟩) (by assumption) ?r3
                    case y3 => ((intro w hSw; (try dsimp only at hSw); go_simp) <;> with_reducible rfl)
                    (try simp only [Act.put, List.setIfInBounds_toArray, List.set_cons_zero, List.set_cons_succ])
                    refine wpAnyH_take (i := 4) (oi := { dst := some 86, op := Op.move (Operand.tmp 10), type := 3, pos := "lists.go:211", after := #[], guard := none }) (v := ?v4) rfl (by kernel_rfl) (by kernel_rfl) (by kernel_rfl) (fun _ _ _ h => h) (Or.inl ⟨by rfl, ?y4⟩) (by assumption) ?r4
                    case y4 => ((intro w hSw; (try dsimp only at hSw); go_simp) <;> with_reducible rfl)
                    (try simp only [Act.put, List.setIfInBounds_toArray, List.set_cons_zero, List.set_cons_succ])
                    refine wpAnyH_take (i := 5) (oi := { dst := some 87, op := Op.indexAddr 34 (Operand.tmp 85) (Operand.tmp 86), type := 0, pos := "lists.go:211", after := #[{ on := 3, ground := Ground.data }, { on := 4, ground := Ground.data }], guard := none }) (v := ?v5) rfl (by kernel_rfl) (by kernel_rfl) (by kernel_rfl) (fun _ _ _ h => h) (Or.inl ⟨by rfl, ?y5⟩) (by assumption) ?r5
                    case y5 => ((intro w hSw; (try dsimp only at hSw); go_simp) <;> with_reducible rfl)
                    (try simp only [Act.put, List.setIfInBounds_toArray, List.set_cons_zero, List.set_cons_succ])
                    refine wpAnyH_take (i := 6) (oi := { dst := some 88, op := Op.load 9 (Operand.tmp 87), type := 9, pos := "lists.go:211", after := #[{ on := 5, ground := Ground.data }], guard := none }) (v := ?v6) rfl (by kernel_rfl) (by kernel_rfl) (by kernel_rfl) (fun _ _ _ h => h) (Or.inl ⟨by rfl, ?y6⟩) (by assumption) ?r6
                    case y6 => ((intro w hSw; (try dsimp only at hSw); go_simp) <;> with_reducible rfl)
                    (try simp only [Act.put, List.setIfInBounds_toArray, List.set_cons_zero, List.set_cons_succ])
                    refine wpAnyH_take (i := 7) (oi := { dst := some 89, op := Op.move (Operand.tmp 9), type := 3, pos := "lists.go:211", after := #[], guard := none }) (v := ?v7) rfl (by kernel_rfl) (by kernel_rfl) (by kernel_rfl) (fun _ _ _ h => h) (Or.inl ⟨by rfl, ?y7⟩) (by assumption) ?r7
                    case y7 => ((intro w hSw; (try dsimp only at hSw); go_simp) <;> with_reducible rfl)
                    (try simp only [Act.put, List.setIfInBounds_toArray, List.set_cons_zero, List.set_cons_succ])
                    refine wpAnyH_take (i := 8) (oi := { dst := some 90, op := Op.binOp BinOp.add 3 (Operand.tmp 89) (Operand.const (Value.int IntKind.i64 10)) 3, type := 3, pos := "lists.go:211", after := #[{ on := 7, ground := Ground.data }], guard := none }) (v := ?v8) rfl (by kernel_rfl) (by kernel_rfl) (by kernel_rfl) (fun _ _ _ h => h) (Or.inl ⟨by rfl, ?y8⟩) (by assumption) ?r8
                    case y8 => ((intro w hSw; (try dsimp only at hSw); go_simp) <;> with_reducible rfl)
                    (try simp only [Act.put, List.setIfInBounds_toArray, List.set_cons_zero, List.set_cons_succ])
                    refine wpAnyH_take (i := 9) (oi := { dst := some 91, op := Op.move (Operand.tmp 10), type := 3, pos := "lists.go:211", after := #[], guard := none }) (v := ?v9) rfl (by kernel_rfl) (by kernel_rfl) (by kernel_rfl) (fun _ _ _ h => h) (Or.inl ⟨by rfl, ?y9⟩) (by assumption) ?r9
                    case y9 => ((intro w hSw; (try dsimp only at hSw); go_simp) <;> with_reducible rfl)
                    (try simp only [Act.put, List.setIfInBounds_toArray, List.set_cons_zero, List.set_cons_succ])
                    refine wpAnyH_ready (rs := [10]) (by kernel_rfl) (by simp) ?_
                    refine AllReadyH.cons rfl (fun K hK => ?_) AllReadyH.nil
                    go_simp
                    go_at_call 41
                    (with_reducible refine (undercroftkit_markTexts.calls _ _ _ _ (mark_f k i)).mono ?_)
                    rintro e w2 ⟨rfl, hb⟩
                    go_wp2_with fail
                    refine hK.out _ _ ⟨hc3 hb (hd3 hcv), hc3 hb (hd3 hcG), hc3 hb (hd3 hci), hold3 (wr := wr.drew) hb hg (hold3 (Below.refl _ _).drew hg hH.out)⟩ (fun hHeld2 => ?_)
                    clear hK K hHeld
                    (try simp only [Act.put, List.setIfInBounds_toArray, List.set_cons_zero, List.set_cons_succ])
                    refine wpAnyH_take (i := 11) (oi := { dst := some 93, op := Op.binOp BinOp.neq 9 (Operand.tmp 88) (Operand.tmp 92) 9, type := 4, pos := "lists.go:211", after := #[{ on := 6, ground := Ground.data }, { on := 10, ground := Ground.data }], guard := none }) (v := ?v11) rfl (by kernel_rfl) (by kernel_rfl) (by kernel_rfl) (fun _ _ _ h => h) (Or.inl ⟨by rfl, ?y11⟩) (by assumption) ?r11
                    case y11 => ((intro w hSw; (try dsimp only at hSw); go_simp) <;> with_reducible rfl)
                    (try simp only [Act.put, List.setIfInBounds_toArray, List.set_cons_zero, List.set_cons_succ])
                    refine wpAnyH_take (i := 12) (oi := { dst := some 94, op := Op.move (Operand.tmp 93), type := 4, pos := "lists.go:211", after := #[{ on := 11, ground := Ground.data }, { on := 10, ground := Ground.chain }], guard := none }) (v := ?v12) rfl (by kernel_rfl) (by kernel_rfl) (by kernel_rfl) (fun _ _ _ h => h) (Or.inl ⟨by rfl, ?y12⟩) (by assumption) ?r12
                    case y12 => ((intro w hSw; (try dsimp only at hSw); go_simp) <;> with_reducible rfl)
                    (try simp only [Act.put, List.setIfInBounds_toArray, List.set_cons_zero, List.set_cons_succ])
                    refine wpAnyH_take (i := 13) (oi := { dst := some 95, op := Op.move (Operand.tmp 10), type := 3, pos := "lists.go:211", after := #[{ on := 12, ground := Ground.guard }], guard := some (12, false) }) (v := ?v13) rfl (by kernel_rfl) (by kernel_rfl) (by kernel_rfl) (fun _ _ _ h => h) (Or.inl ⟨by rfl, ?y13⟩) (by assumption) ?r13
                    case y13 => ((intro w hSw; (try dsimp only at hSw); go_simp) <;> with_reducible rfl)
                    (try simp only [Act.put, List.setIfInBounds_toArray, List.set_cons_zero, List.set_cons_succ])
                    refine wpAnyH_take (i := 14) (oi := { dst := some 96, op := Op.move (Operand.tmp 0), type := 44, pos := "lists.go:211", after := #[{ on := 12, ground := Ground.guard }], guard := some (12, false) }) (v := ?v14) rfl (by kernel_rfl) (by kernel_rfl) (by kernel_rfl) (fun _ _ _ h => h) (Or.inl ⟨by rfl, ?y14⟩) (by assumption) ?r14
                    case y14 => ((intro w hSw; (try dsimp only at hSw); go_simp) <;> with_reducible rfl)
                    (try simp only [Act.put, List.setIfInBounds_toArray, List.set_cons_zero, List.set_cons_succ])
                    refine wpAnyH_take (i := 15) (oi := { dst := some 97, op := Op.move (Operand.tmp 9), type := 3, pos := "lists.go:211", after := #[{ on := 12, ground := Ground.guard }], guard := some (12, false) }) (v := ?v15) rfl (by kernel_rfl) (by kernel_rfl) (by kernel_rfl) (fun _ _ _ h => h) (Or.inl ⟨by rfl, ?y15⟩) (by assumption) ?r15
                    case y15 => ((intro w hSw; (try dsimp only at hSw); go_simp) <;> with_reducible rfl)
                    (try simp only [Act.put, List.setIfInBounds_toArray, List.set_cons_zero, List.set_cons_succ])
                    refine wpAnyH_take (i := 16) (oi := { dst := some 98, op := Op.indexAddr 44 (Operand.tmp 96) (Operand.tmp 97), type := 0, pos := "lists.go:211", after := #[{ on := 14, ground := Ground.data }, { on := 15, ground := Ground.data }, { on := 12, ground := Ground.guard }], guard := some (12, false) }) (v := ?v16) rfl (by kernel_rfl) (by kernel_rfl) (by kernel_rfl) (fun _ _ _ h => h) (Or.inl ⟨by rfl, ?y16⟩) (by assumption) ?r16
                    case y16 => ((intro w hSw; (try dsimp only at hSw); go_simp) <;> with_reducible rfl)
                    (try simp only [Act.put, List.setIfInBounds_toArray, List.set_cons_zero, List.set_cons_succ])
                    refine wpAnyH_take (i := 17) (oi := { dst := some 99, op := Op.load 34 (Operand.tmp 98), type := 34, pos := "lists.go:211", after := #[{ on := 16, ground := Ground.data }, { on := 12, ground := Ground.guard }], guard := some (12, false) }) (v := ?v17) rfl (by kernel_rfl) (by kernel_rfl) (by kernel_rfl) (fun _ _ _ h => h) (Or.inl ⟨by rfl, ?y17⟩) (by assumption) ?r17
                    case y17 => ((intro w hSw; (try dsimp only at hSw); go_simp) <;> with_reducible rfl)
                    (try simp only [Act.put, List.setIfInBounds_toArray, List.set_cons_zero, List.set_cons_succ])
                    refine wpAnyH_take (i := 18) (oi := { dst := some 100, op := Op.call { callee := Callee.builtin Builtin.len, args := #[Operand.tmp 99], argTypes := #[34] }, type := 3, pos := "lists.go:211", after := #[{ on := 17, ground := Ground.data }, { on := 12, ground := Ground.guard }], guard := some (12, false) }) (v := ?v18) rfl (by kernel_rfl) (by kernel_rfl) (by kernel_rfl) (fun _ _ _ h => h) (Or.inl ⟨by rfl, ?y18⟩) (by assumption) ?r18
                    case y18 => ((intro w hSw; (try dsimp only at hSw); go_simp) <;> with_reducible rfl)
                    (try simp only [Act.put, List.setIfInBounds_toArray, List.set_cons_zero, List.set_cons_succ])
                    refine wpAnyH_take (i := 19) (oi := { dst := some 101, op := Op.binOp BinOp.lss 3 (Operand.tmp 95) (Operand.tmp 100) 3, type := 4, pos := "lists.go:211", after := #[{ on := 13, ground := Ground.data }, { on := 18, ground := Ground.data }, { on := 12, ground := Ground.guard }], guard := some (12, false) }) (v := ?v19) rfl (by kernel_rfl) (by kernel_rfl) (by kernel_rfl) (fun _ _ _ h => h) (Or.inl ⟨by rfl, ?y19⟩) (by assumption) ?r19
                    case y19 => ((intro w hSw; (try dsimp only at hSw); go_simp) <;> with_reducible rfl)
                    (try simp only [Act.put, List.setIfInBounds_toArray, List.set_cons_zero, List.set_cons_succ])
                    refine wpAnyH_take (i := 20) (oi := { dst := some 102, op := Op.move (Operand.tmp 101), type := 4, pos := "lists.go:211", after := #[{ on := 19, ground := Ground.data }, { on := 12, ground := Ground.chain }, { on := 12, ground := Ground.guard }], guard := some (12, false) }) (v := ?v20) rfl (by kernel_rfl) (by kernel_rfl) (by kernel_rfl) (fun _ _ _ h => h) (Or.inl ⟨by rfl, ?y20⟩) (by assumption) ?r20
                    case y20 => ((intro w hSw; (try dsimp only at hSw); go_simp) <;> with_reducible rfl)
                    (try simp only [Act.put, List.setIfInBounds_toArray, List.set_cons_zero, List.set_cons_succ])
                    refine wpAnyH_take (i := 21) (oi := { dst := some 103, op := Op.move (Operand.tmp 0), type := 44, pos := "lists.go:211", after := #[{ on := 20, ground := Ground.guard }], guard := some (20, true) }) (v := undef) rfl (by kernel_rfl) (by kernel_rfl) (by kernel_rfl) (fun _ _ _ h => h) (Or.inr ⟨by rfl, rfl⟩) (by assumption) ?_
                    (try simp only [Act.put, List.setIfInBounds_toArray, List.set_cons_zero, List.set_cons_succ])
                    refine wpAnyH_take (i := 22) (oi := { dst := some 104, op := Op.move (Operand.tmp 9), type := 3, pos := "lists.go:211", after := #[{ on := 20, ground := Ground.guard }], guard := some (20, true) }) (v := undef) rfl (by kernel_rfl) (by kernel_rfl) (by kernel_rfl) (fun _ _ _ h => h) (Or.inr ⟨by rfl, rfl⟩) (by assumption) ?_
                    (try simp only [Act.put, List.setIfInBounds_toArray, List.set_cons_zero, List.set_cons_succ])
                    refine wpAnyH_take (i := 23) (oi := { dst := some 105, op := Op.indexAddr 44 (Operand.tmp 103) (Operand.tmp 104), type := 0, pos := "lists.go:211", after := #[{ on := 21, ground := Ground.data }, { on := 22, ground := Ground.data }, { on := 20, ground := Ground.guard }], guard := some (20, true) }) (v := undef) rfl (by kernel_rfl) (by kernel_rfl) (by kernel_rfl) (fun _ _ _ h => h) (Or.inr ⟨by rfl, rfl⟩) (by assumption) ?_
                    (try simp only [Act.put, List.setIfInBounds_toArray, List.set_cons_zero, List.set_cons_succ])
                    refine wpAnyH_take (i := 24) (oi := { dst := some 106, op := Op.load 34 (Operand.tmp 105), type := 34, pos := "lists.go:211", after := #[{ on := 23, ground := Ground.data }, { on := 20, ground := Ground.guard }], guard := some (20, true) }) (v := undef) rfl (by kernel_rfl) (by kernel_rfl) (by kernel_rfl) (fun _ _ _ h => h) (Or.inr ⟨by rfl, rfl⟩) (by assumption) ?_
                    (try simp only [Act.put, List.setIfInBounds_toArray, List.set_cons_zero, List.set_cons_succ])
                    refine wpAnyH_take (i := 25) (oi := { dst := some 107, op := Op.move (Operand.tmp 10), type := 3, pos := "lists.go:211", after := #[{ on := 20, ground := Ground.guard }], guard := some (20, true) }) (v := undef) rfl (by kernel_rfl) (by kernel_rfl) (by kernel_rfl) (fun _ _ _ h => h) (Or.inr ⟨by rfl, rfl⟩) (by assumption) ?_
                    (try simp only [Act.put, List.setIfInBounds_toArray, List.set_cons_zero, List.set_cons_succ])
                    refine wpAnyH_take (i := 26) (oi := { dst := some 108, op := Op.indexAddr 34 (Operand.tmp 106) (Operand.tmp 107), type := 0, pos := "lists.go:211", after := #[{ on := 24, ground := Ground.data }, { on := 25, ground := Ground.data }, { on := 20, ground := Ground.guard }], guard := some (20, true) }) (v := undef) rfl (by kernel_rfl) (by kernel_rfl) (by kernel_rfl) (fun _ _ _ h => h) (Or.inr ⟨by rfl, rfl⟩) (by assumption) ?_
                    (try simp only [Act.put, List.setIfInBounds_toArray, List.set_cons_zero, List.set_cons_succ])
                    refine wpAnyH_take (i := 27) (oi := { dst := some 109, op := Op.load 9 (Operand.tmp 108), type := 9, pos := "lists.go:211", after := #[{ on := 26, ground := Ground.data }, { on := 20, ground := Ground.guard }], guard := some (20, true) }) (v := undef) rfl (by kernel_rfl) (by kernel_rfl) (by kernel_rfl) (fun _ _ _ h => h) (Or.inr ⟨by rfl, rfl⟩) (by assumption) ?_
                    (try simp only [Act.put, List.setIfInBounds_toArray, List.set_cons_zero, List.set_cons_succ])
                    refine wpAnyH_take (i := 28) (oi := { dst := some 110, op := Op.move (Operand.tmp 5), type := 44, pos := "lists.go:211", after := #[{ on := 20, ground := Ground.guard }], guard := some (20, true) }) (v := undef) rfl (by kernel_rfl) (by kernel_rfl) (by kernel_rfl) (fun _ _ _ h => h) (Or.inr ⟨by rfl, rfl⟩) (by assumption) ?_
                    (try simp only [Act.put, List.setIfInBounds_toArray, List.set_cons_zero, List.set_cons_succ])
                    refine wpAnyH_take (i := 29) (oi := { dst := some 111, op := Op.move (Operand.tmp 9), type := 3, pos := "lists.go:211", after := #[{ on := 20, ground := Ground.guard }], guard := some (20, true) }) (v := undef) rfl (by kernel_rfl) (by kernel_rfl) (by kernel_rfl) (fun _ _ _ h => h) (Or.inr ⟨by rfl, rfl⟩) (by assumption) ?_
                    (try simp only [Act.put, List.setIfInBounds_toArray, List.set_cons_zero, List.set_cons_succ])
                    refine wpAnyH_take (i := 30) (oi := { dst := some 112, op := Op.indexAddr 44 (Operand.tmp 110) (Operand.tmp 111), type := 0, pos := "lists.go:211", after := #[{ on := 28, ground := Ground.data }, { on := 29, ground := Ground.data }, { on := 20, ground := Ground.guard }], guard := some (20, true) }) (v := undef) rfl (by kernel_rfl) (by kernel_rfl) (by kernel_rfl) (fun _ _ _ h => h) (Or.inr ⟨by rfl, rfl⟩) (by assumption) ?_
                    (try simp only [Act.put, List.setIfInBounds_toArray, List.set_cons_zero, List.set_cons_succ])
                    refine wpAnyH_take (i := 31) (oi := { dst := some 113, op := Op.load 34 (Operand.tmp 112), type := 34, pos := "lists.go:211", after := #[{ on := 30, ground := Ground.data }, { on := 20, ground := Ground.guard }], guard := some (20, true) }) (v := undef) rfl (by kernel_rfl) (by kernel_rfl) (by kernel_rfl) (fun _ _ _ h => h) (Or.inr ⟨by rfl, rfl⟩) (by assumption) ?_
                    (try simp only [Act.put, List.setIfInBounds_toArray, List.set_cons_zero, List.set_cons_succ])
                    refine wpAnyH_take (i := 32) (oi := { dst := some 114, op := Op.move (Operand.tmp 10), type := 3, pos := "lists.go:211", after := #[{ on := 20, ground := Ground.guard }], guard := some (20, true) }) (v := undef) rfl (by kernel_rfl) (by kernel_rfl) (by kernel_rfl) (fun _ _ _ h => h) (Or.inr ⟨by rfl, rfl⟩) (by assumption) ?_
                    (try simp only [Act.put, List.setIfInBounds_toArray, List.set_cons_zero, List.set_cons_succ])
                    refine wpAnyH_take (i := 33) (oi := { dst := some 115, op := Op.indexAddr 34 (Operand.tmp 113) (Operand.tmp 114), type := 0, pos := "lists.go:211", after := #[{ on := 31, ground := Ground.data }, { on := 32, ground := Ground.data }, { on := 20, ground := Ground.guard }], guard := some (20, true) }) (v := undef) rfl (by kernel_rfl) (by kernel_rfl) (by kernel_rfl) (fun _ _ _ h => h) (Or.inr ⟨by rfl, rfl⟩) (by assumption) ?_
                    (try simp only [Act.put, List.setIfInBounds_toArray, List.set_cons_zero, List.set_cons_succ])
                    refine wpAnyH_take (i := 34) (oi := { dst := some 116, op := Op.load 9 (Operand.tmp 115), type := 9, pos := "lists.go:211", after := #[{ on := 33, ground := Ground.data }, { on := 20, ground := Ground.guard }], guard := some (20, true) }) (v := undef) rfl (by kernel_rfl) (by kernel_rfl) (by kernel_rfl) (fun _ _ _ h => h) (Or.inr ⟨by rfl, rfl⟩) (by assumption) ?_
                    (try simp only [Act.put, List.setIfInBounds_toArray, List.set_cons_zero, List.set_cons_succ])
                    refine wpAnyH_take (i := 35) (oi := { dst := some 117, op := Op.binOp BinOp.neq 9 (Operand.tmp 109) (Operand.tmp 116) 9, type := 4, pos := "lists.go:211", after := #[{ on := 27, ground := Ground.data }, { on := 34, ground := Ground.data }, { on := 20, ground := Ground.guard }], guard := some (20, true) }) (v := undef) rfl (by kernel_rfl) (by kernel_rfl) (by kernel_rfl) (fun _ _ _ h => h) (Or.inr ⟨by rfl, rfl⟩) (by assumption) ?_
                    (try simp only [Act.put, List.setIfInBounds_toArray, List.set_cons_zero, List.set_cons_succ])
                    refine wpAnyH_take (i := 36) (oi := { dst := some 118, op := Op.pick (Operand.tmp 102) (Operand.tmp 117) (Operand.const (Value.bool false)), type := 4, pos := "lists.go:211", after := #[{ on := 20, ground := Ground.data }, { on := 35, ground := Ground.data }, { on := 12, ground := Ground.guard }], guard := some (12, false) }) (v := ?v36) rfl (by kernel_rfl) (by kernel_rfl) (by kernel_rfl) (fun _ _ _ h => h) (Or.inl ⟨by rfl, ?y36⟩) (by assumption) ?r36
                    case y36 => ((intro w hSw; (try dsimp only at hSw); go_simp) <;> with_reducible rfl)
                    (try simp only [Act.put, List.setIfInBounds_toArray, List.set_cons_zero, List.set_cons_succ])
                    refine wpAnyH_take (i := 37) (oi := { dst := some 119, op := Op.pick (Operand.tmp 94) (Operand.const (Value.bool true)) (Operand.tmp 118), type := 4, pos := "lists.go:211", after := #[{ on := 12, ground := Ground.data }, { on := 36, ground := Ground.data }], guard := none }) (v := ?v37) rfl (by kernel_rfl) (by kernel_rfl) (by kernel_rfl) (fun _ _ _ h => h) (Or.inl ⟨by rfl, ?y37⟩) (by assumption) ?r37
                    case y37 => ((intro w hSw; (try dsimp only at hSw); go_simp) <;> with_reducible rfl)
                    (try simp only [Act.put, List.setIfInBounds_toArray, List.set_cons_zero, List.set_cons_succ])
                    refine wpAnyH_done (by kernel_rfl) ?_ _
                    have hb1 := hb
                    clear hb
                    obtain ⟨hT9, hB9⟩ := hold3 (wr := wr.drew) hb1 hg (hold3 (Below.refl _ _).drew hg hH.out)
                    clear hH hb1 hcv hcG hci
                    go_wp2
                    go_roundw
                    case rel => exact ⟨i + 1, by omega, by go_num, hT9, hB9⟩
                    case measure => simp [intOf]; omega
                · go_wp2
                  clear hcT
                  go_roundw
                  case rel => exact ⟨k + 1, by omega, by go_num, HT, HB⟩
                  case measure => simp [intOf]; omega
            · go_wp2
              go_ret
              exact ⟨rfl, HB.out⟩
end Go.Proofs.Ytochgkepaleblaa.Apart
