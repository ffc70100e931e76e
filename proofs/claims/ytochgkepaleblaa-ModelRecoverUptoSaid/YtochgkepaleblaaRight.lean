/- right: a book of states that lie apart, and are what they must be, answers yes. -/
import Derived.Test.YtochgkepaleblaaApE
import Derived.Test.YtochgkepaleblaaApH
import Derived.Test.YtochgkepaleblaaApI
set_option linter.unusedVariables false
set_option linter.unusedSimpArgs false
namespace Go.Proofs.Ytochgkepaleblaa.Right
open Go.RowKit Go.Proofs.YtochgkepaleblaaW.PrintWords Go.Proofs.YtochgkepaleblaaW.PrintLast Go.Proofs.YtochgkepaleblaaW.PrintMore
open Go.Proofs.Ytochgkepaleblaa.Rowz Go.Proofs.Ytochgkepaleblaa.Marks Go.Proofs.Ytochgkepaleblaa.Rec Go.Proofs.Ytochgkepaleblaa.ApI
open Go.Proofs.Ytochgkepaleblaa.Held (B63)

/-- What an item leads to: its blocks' header, the blocks; its entries' header, the entries. -/
structure Q where
  dv : Value
  ds : List B63
  ev : Value
  es : List S66
def pre (D : List (List Q)) (j k : Nat) : List Q := (D.take j).flatten ++ (D.getD j []).take k
theorem pre_zero (D : List (List Q)) : pre D 0 0 = [] := by simp [pre]
theorem pre_succ (D : List (List Q)) (j k : Nat) (h : k < (D.getD j []).length) : pre D j (k + 1) = pre D j k ++ [(D.getD j [])[k]] := by
  unfold pre
  rw [List.take_succ_eq_append_getElem h, List.append_assoc]
theorem pre_next (D : List (List Q)) (j : Nat) (h : j < D.length) : pre D (j + 1) 0 = pre D j (D.getD j []).length := by
  unfold pre
  rw [List.take_succ_eq_append_getElem h, List.flatten_append, List.take_zero, List.append_nil, List.take_length]
  congr 1
  rw [List.getD_eq_getElem?_getD, List.getElem?_eq_getElem h]
  simp
theorem pre_all (D : List (List Q)) (n : Nat) (h : D.length = n) : pre D n 0 = D.flatten := by
  subst h
  simp [pre]
theorem pre_le (D : List (List Q)) : ∀ (j k : Nat), (pre D j k).length ≤ D.flatten.length := by
  intro j k
  unfold pre
  rw [List.length_append]
  have e : D = D.take j ++ D.drop j := (List.take_append_drop j D).symm
  have e2 : D.flatten.length = (D.take j).flatten.length + (D.drop j).flatten.length := by
    conv => lhs; rw [e]
    rw [List.flatten_append, List.length_append]
  rw [e2]
  refine Nat.add_le_add_left ?_ _
  by_cases hj : j < D.length
  · rw [List.drop_eq_getElem_cons hj, List.flatten_cons, List.length_append, List.getD_eq_getElem?_getD, List.getElem?_eq_getElem hj]
    simp only [Option.getD_some, List.length_take]
    omega
  · rw [List.getD_eq_getElem?_getD, List.getElem?_eq_none (by omega)]
    simp

theorem far_rows {α : Type} {K : EK α} {w w1 : World} {bad : Nat → Prop} {N g n : Nat} {hd : Nat → Nat} {V : Nat → Value} {X : Nat → List α} (h : Rowz.Rows K w N g n hd V X) (hf : Far bad w w1) (hg : ¬ bad g)
    (hv : ∀ j, j < n → ∀ b, (V j).ownBlock = some b → ¬ bad b) : Rowz.Rows K w1 N g n hd V X :=
  ⟨h.gN, fun j hj => hf.cell (h.cell j hj) hg, fun j hj => (h.row j hj).move fun b hb => hf.block b ((h.row j hj).lt hb) (hv j hj b hb), h.ne, h.neg⟩
theorem typed_ne {w : World} {N N' : Nat} {e e' size size' n n' : Nat} {v v' : Value} {xs xs' : List Value} (h : w.ownsRow N e size v n xs) (h' : w.ownsRow N' e' size' v' n' xs') (hne : e ≠ e') {b : Nat} (hb : v.ownBlock = some b) : v'.ownBlock ≠ some b := by
  intro hb'
  obtain ⟨c1, h1⟩ := own_typed h b hb
  obtain ⟨c2, h2⟩ := own_typed h' b hb'
  rw [h1] at h2
  injection h2 with h2
  injection h2 with _ h2
  exact hne h2
theorem typed_blk {w : World} {N : Nat} {e size n : Nat} {v : Value} {xs : List Value} (h : w.ownsRow N e size v n xs) {g t : Nat} {cs : Array Value} (hg : w.heap[g]? = some (.cells cs t (0, 0))) (hne : e ≠ t) : v.ownBlock ≠ some g := by
  intro hb
  obtain ⟨c1, h1⟩ := own_typed h g hb
  rw [h1] at hg
  injection hg with hg
  injection hg with _ hg
  exact hne hg

/-- The rows that a list of headers names. -/
theorem rows_of {α : Type} (K : EK α) (w : World) (N M c g : Nat) (L : List Q) (hd : Q → Value) (xs : Q → List α) (hown : w.ownsRow M K.H 1 (.slice (some ⟨g, 0, none⟩) L.length c) L.length (L.map hd)) (hNM : N ≤ M)
    (hrow : ∀ q ∈ L, K.RS w N (hd q) (xs q)) (hne : L.Pairwise fun a b => NeRow (hd a) (hd b)) (z : Q) :
    Rowz.Rows K w N g L.length ApE.ident (fun j => hd (L.getD j z)) (fun j => xs (L.getD j z)) := by
  have hat : ∀ j (hj : j < L.length), L.getD j z = L[j] := fun j hj => by rw [List.getD_eq_getElem?_getD, List.getElem?_eq_getElem hj]; rfl
  have hgt : M ≤ g := own_base hown g rfl
  refine ⟨by omega, fun j hj => ?_, fun j hj => ?_, fun i j hi hj hij b hb => ?_, fun j hj => ?_⟩
  · have h1 := hown.cells (g := g) rfl j (hd (L.getD j z)) (by rw [List.getElem?_map, List.getElem?_eq_getElem hj, hat j hj]; rfl)
    rwa [add_plain] at h1
  · show K.RS w N (hd (L.getD j z)) (xs (L.getD j z))
    rw [hat j hj]
    exact hrow _ (List.getElem_mem hj)
  · show (hd (L.getD j z)).ownBlock ≠ some b
    have hb' : (hd (L.getD i z)).ownBlock = some b := hb
    rw [hat i hi] at hb'
    rw [hat j hj]
    rcases Nat.lt_or_gt_of_ne hij with h | h
    · exact (List.pairwise_iff_getElem.1 hne i j hi hj h) b hb'
    · intro e
      exact (List.pairwise_iff_getElem.1 hne j i hj hi h) b e hb'
  · show (hd (L.getD j z)).ownBlock ≠ some g
    rw [hat j hj]
    intro e
    exact typed_ne (hrow _ (List.getElem_mem hj)) hown K.ne e rfl
theorem bad_of {L : List Q} {hd : Q → Value} {z : Q} {b : Nat} (h : ∃ j, j < L.length ∧ (hd (L.getD j z)).ownBlock = some b) : ∃ q ∈ L, (hd q).ownBlock = some b := by
  obtain ⟨j, hj, hb⟩ := h
  rw [List.getD_eq_getElem?_getD, List.getElem?_eq_getElem hj] at hb
  exact ⟨_, List.getElem_mem hj, hb⟩

set_option maxHeartbeats 1000000 in
theorem bytes_nil (w : World) (c : Nat) : Calls Try.prog 37 #[.slice none 0 c] w fun e w' => e = .returned (.bool true) ∧ w' = w := by
  go_enter Try.func37, Try.ntmps37
  go_wp2
  go_loopw [3] (fun v3 w' => v3 = .int .i64 0 ∧ w' = w) (fun _ _ => 0)
  case atStart => exact ⟨rfl, rfl⟩
  case round =>
    obtain ⟨rfl, rfl⟩ := hrel
    go_wp2
    go_loopw [5, 6] (fun v5 v6 w' => v6 = .int .i64 0 ∧ w' = wr) (fun _ _ _ => 0)
    case atStart => exact ⟨rfl, rfl⟩
    case round =>
      obtain ⟨rfl, rfl⟩ := hrel
      go_wp2
      go_loopw [9] (fun v9 w' => v9 = .int .i64 0 ∧ w' = wr) (fun _ _ => 0)
      case atStart => exact ⟨rfl, rfl⟩
      case round =>
        obtain ⟨rfl, rfl⟩ := hrel
        go_wp2
        go_ret
        exact ⟨rfl, rfl⟩

/-- What `right` finds: n states at block s, their items, what these lead to: all of it lies apart. -/
structure Book (w : World) (N s n : Nat) (D : List (List Q)) (IV : Nat → Value) (X : Nat → List I54) : Prop where
  rows : Rowz.Rows K54 w N s n third3 IV X
  typ : ∃ cs, w.heap[s]? = some (.cells cs 24 (0, 0))
  dlen : D.length = n
  len : ∀ j, j < n → (X j).length = (D.getD j []).length
  at_ : ∀ j k (h : k < (D.getD j []).length), ∃ ib, (IV j).ownBlock = some ib ∧ w.cell? ⟨ib, k * 7 + 5, none⟩ = some (D.getD j [])[k].dv ∧ w.cell? ⟨ib, k * 7 + 6, none⟩ = some (D.getD j [])[k].ev
  drow : ∀ q ∈ D.flatten, K63.RS w N q.dv q.ds
  erow : ∀ q ∈ D.flatten, K66.RS w N q.ev q.es
  dne : D.flatten.Pairwise fun a b => NeRow a.dv b.dv
  ene : D.flatten.Pairwise fun a b => NeRow a.ev b.ev
theorem Book.below {w w1 : World} {N s n : Nat} {D : List (List Q)} {IV : Nat → Value} {X : Nat → List I54} (h : Book w N s n D IV X) (hb : Below w.heap.size w w1) : Book w1 N s n D IV X where
  rows := h.rows.below hb
  typ := by
    obtain ⟨cs, hc⟩ := h.typ
    exact ⟨cs, (hb.block s (blk_lt hc)).trans hc⟩
  dlen := h.dlen
  len := h.len
  at_ := fun j k hk => by
    obtain ⟨ib, h1, h2, h3⟩ := h.at_ j k hk
    exact ⟨ib, h1, ApE.hc hb h2, ApE.hc hb h3⟩
  drow := fun q hq => (h.drow q hq).below hb
  erow := fun q hq => (h.erow q hq).below hb
  dne := h.dne
  ene := h.ene
theorem at_mem {D : List (List Q)} {j k : Nat} (h : k < (D.getD j []).length) : (D.getD j [])[k] ∈ D.flatten := by
  by_cases hj : j < D.length
  · refine List.mem_flatten.2 ⟨D[j], List.getElem_mem hj, ?_⟩
    have e : D.getD j [] = D[j] := by rw [List.getD_eq_getElem?_getD, List.getElem?_eq_getElem hj]; rfl
    rw [← e]
    exact List.getElem_mem h
  · have e : D.getD j [] = [] := by rw [List.getD_eq_getElem?_getD, List.getElem?_eq_none (by omega)]; rfl
    exact absurd (e ▸ h : k < ([] : List Q).length) (Nat.not_lt_zero _)
/-- Two lists of headers as they grow. -/
structure Gr (w w' : World) (vh ve : Value) (l : List Q) : Prop where
  h : w'.ownsRow w.heap.size 51 1 vh l.length (l.map Q.dv)
  e : w'.ownsRow w.heap.size 52 1 ve l.length (l.map Q.ev)
  b : Below w.heap.size w w'
theorem Gr.appH {w wr w1 : World} {vh ve v1 : Value} {l : List Q} {q : Q} (h : Gr w wr vh ve l) (ho : w1.ownsRow w.heap.size 51 1 v1 (l.length + 1) (l.map Q.dv ++ [q.dv])) (hB : Below w.heap.size w w1) (hg : wr.grownBy w1 vh.ownBlock) :
    w1.ownsRow w.heap.size 51 1 v1 (l ++ [q]).length ((l ++ [q]).map Q.dv) ∧ w1.ownsRow w.heap.size 52 1 ve l.length (l.map Q.ev) ∧ Below w.heap.size w w1 := by
  refine ⟨by rw [List.length_append, List.map_append]; exact ho, own_other h.e hg (own_type_ne h.e h.h (by decide)), hB⟩
theorem Gr.appE {w wr w1 : World} {vh ve v1 : Value} {l : List Q} {q : Q} (h1 : wr.ownsRow w.heap.size 51 1 vh (l ++ [q]).length ((l ++ [q]).map Q.dv)) (h2 : wr.ownsRow w.heap.size 52 1 ve l.length (l.map Q.ev))
    (ho : w1.ownsRow w.heap.size 52 1 v1 (l.length + 1) (l.map Q.ev ++ [q.ev])) (hB : Below w.heap.size w w1) (hg : wr.grownBy w1 ve.ownBlock) : Gr w w1 vh v1 (l ++ [q]) :=
  ⟨own_other h1 hg (own_type_ne h1 h2 (by decide)), by rw [List.length_append, List.map_append]; exact ho, hB⟩

def z1 : Q := ⟨.slice none 0 0, [], .slice none 0 0, []⟩
theorem call_H (W : World) (N M : Nat) (v : Value) (L : List Q) (hown : W.ownsRow M 51 1 v L.length (L.map Q.dv)) (hNM : N ≤ M) (hM : M ≤ W.heap.size) (hrow : ∀ q ∈ L, K63.RS W N q.dv q.ds) (hne : L.Pairwise fun a b => NeRow a.dv b.dv)
    (hL : L.length ≤ 10000000) (hs : ∀ q ∈ L, q.ds.length ≤ 10000000) : Calls Try.prog 39 #[v] W fun e w' => e = .returned (.bool true) ∧ Far (fun b => ∃ q ∈ L, q.dv.ownBlock = some b) W w' := by
  rcases hown.2 with ⟨rfl, h0⟩ | ⟨g, cap, cur, rfl, _⟩
  · exact (ApH.apart_nil W 0).mono fun e w' ⟨he, hw⟩ => ⟨he, by rw [hw]; exact Far.refl _ _⟩
  · have hr := rows_of K63 W N M cap g L Q.dv Q.ds hown hNM hrow hne z1
    refine (ApH.apart W N g L.length cap _ _ (by omega) hL (fun j hj => ?_) hr).mono fun e w' ⟨he, hw⟩ => ⟨he, hw.mono fun b _ hb => bad_of hb⟩
    refine hs _ ?_
    rw [List.getD_eq_getElem?_getD, List.getElem?_eq_getElem hj]
    exact List.getElem_mem hj
theorem call_E (W : World) (N M : Nat) (v : Value) (L : List Q) (hown : W.ownsRow M 52 1 v L.length (L.map Q.ev)) (hNM : N ≤ M) (hM : M ≤ W.heap.size) (hrow : ∀ q ∈ L, K66.RS W N q.ev q.es) (hne : L.Pairwise fun a b => NeRow a.ev b.ev)
    (hL : L.length ≤ 10000000) (hs : ∀ q ∈ L, q.es.length ≤ 10000000) : Calls Try.prog 38 #[v] W fun e w' => e = .returned (.bool true) ∧ Far (fun b => ∃ q ∈ L, q.ev.ownBlock = some b) W w' := by
  rcases hown.2 with ⟨rfl, h0⟩ | ⟨g, cap, cur, rfl, _⟩
  · exact (ApE.apart_nil W 0).mono fun e w' ⟨he, hw⟩ => ⟨he, by rw [hw]; exact Far.refl _ _⟩
  · have hr := rows_of K66 W N M cap g L Q.ev Q.es hown hNM hrow hne z1
    refine (ApE.apart W N g L.length cap _ _ (by omega) hL (fun j hj => ?_) hr).mono fun e w' ⟨he, hw⟩ => ⟨he, hw.mono fun b _ hb => bad_of hb⟩
    refine hs _ ?_
    rw [List.getD_eq_getElem?_getD, List.getElem?_eq_getElem hj]
    exact List.getElem_mem hj
/-- All three lists, one behind the other. -/
theorem call_all {W0 w : World} {N s n yb : Nat} {v3 v4 : Value} {D : List (List Q)} {IV : Nat → Value} {X : Nat → List I54} {ycs : Array Value} (hG : Gr W0 w v3 v4 D.flatten) (hK : Book W0 N s n D IV X) (hN : N ≤ W0.heap.size) (hD : D.flatten.length ≤ 10000000)
    (hds : ∀ q ∈ D.flatten, q.ds.length ≤ 10000000) (hes : ∀ q ∈ D.flatten, q.es.length ≤ 10000000) (hyb : W0.heap[yb]? = some (.cells ycs 30 (0, 0))) :
    Calls Try.prog 38 #[v4] w fun e w2 => e = .returned (.bool true) ∧ Keep (w2.heap[yb]? = some (.cells ycs 30 (0, 0)) ∧ Rowz.Rows K54 w2 N s n third3 IV X ∧ Below N W0 w2 ∧
      Calls Try.prog 39 #[v3] w2 fun e w3 => e = .returned (.bool true) ∧ Keep (w3.heap[yb]? = some (.cells ycs 30 (0, 0)) ∧ Rowz.Rows K54 w3 N s n third3 IV X ∧ Below N W0 w3)) := by
  have hK1 := hK.below hG.b
  have hy1 := (hG.b.block yb (blk_lt hyb)).trans hyb
  obtain ⟨sc, hsc⟩ := hK1.typ
  refine (call_E w N W0.heap.size v4 D.flatten hG.e hN hG.b.size hK1.erow hK1.ene hD hes).mono fun e w2 ⟨he, hf⟩ => ⟨he, ⟨?_, ?_, ?_, ?_⟩⟩
  · refine (hf.block yb (blk_lt hy1) ?_).trans hy1
    rintro ⟨q, hq, hb⟩
    exact typed_blk (hK1.erow q hq) hy1 (by decide) hb
  · refine far_rows hK1.rows hf ?_ ?_
    · rintro ⟨q, hq, hb⟩
      exact typed_blk (hK1.erow q hq) hsc (by decide) hb
    · rintro j hj b hb ⟨q, hq, hb'⟩
      exact typed_ne (hK1.rows.row j hj) (hK1.erow q hq) (by decide) hb hb'
  · exact (hG.b.mono hN).trans (hf.toBelow (Nat.le_trans hN hG.b.size) fun b ⟨q, hq, hb⟩ => (hK1.erow q hq).base hb)
  · have ho : w2.ownsRow W0.heap.size 51 1 v3 D.flatten.length (D.flatten.map Q.dv) := own_move hG.h fun b hb => hf.block b (own_lt hG.h b hb) (by
      rintro ⟨q, hq, hb'⟩
      exact typed_ne (hK1.erow q hq) hG.h (by decide) hb' hb)
    have hd2 : ∀ q ∈ D.flatten, K63.RS w2 N q.dv q.ds := fun q hq => (hK1.drow q hq).move fun b hb => hf.block b ((hK1.drow q hq).lt hb) (by
      rintro ⟨q', hq', hb'⟩
      exact typed_ne (hK1.drow q hq) (hK1.erow q' hq') (by decide) hb hb')
    have hr2 : Rowz.Rows K54 w2 N s n third3 IV X := by
      refine far_rows hK1.rows hf ?_ ?_
      · rintro ⟨q, hq, hb⟩
        exact typed_blk (hK1.erow q hq) hsc (by decide) hb
      · rintro j hj b hb ⟨q, hq, hb'⟩
        exact typed_ne (hK1.rows.row j hj) (hK1.erow q hq) (by decide) hb hb'
    have hy2 : w2.heap[yb]? = some (.cells ycs 30 (0, 0)) := by
      refine (hf.block yb (blk_lt hy1) ?_).trans hy1
      rintro ⟨q, hq, hb⟩
      exact typed_blk (hK1.erow q hq) hy1 (by decide) hb
    have hs2 : w2.heap[s]? = some (.cells sc 24 (0, 0)) := by
      refine (hf.block s (blk_lt hsc) ?_).trans hsc
      rintro ⟨q, hq, hb⟩
      exact typed_blk (hK1.erow q hq) hsc (by decide) hb
    refine (call_H w2 N W0.heap.size v3 D.flatten ho hN (Nat.le_trans hG.b.size hf.size) hd2 hK1.dne hD hds).mono fun e w3 ⟨he3, hf3⟩ => ⟨he3, ⟨?_, ?_, ?_⟩⟩
    · refine (hf3.block yb (blk_lt hy2) ?_).trans hy2
      rintro ⟨q, hq, hb⟩
      exact typed_blk (hd2 q hq) hy2 (by decide) hb
    · refine far_rows hr2 hf3 ?_ ?_
      · rintro ⟨q, hq, hb⟩
        exact typed_blk (hd2 q hq) hs2 (by decide) hb
      · rintro j hj b hb ⟨q, hq, hb'⟩
        exact typed_ne (hr2.row j hj) (hd2 q hq) (by decide) hb hb'
    · have h2 : Below N W0 w2 := (hG.b.mono hN).trans (hf.toBelow (Nat.le_trans hN hG.b.size) fun b ⟨q, hq, hb⟩ => (hK1.erow q hq).base hb)
      exact h2.trans (hf3.toBelow (Nat.le_trans hN h2.size) fun b ⟨q, hq, hb⟩ => (hd2 q hq).base hb)

set_option maxHeartbeats 4000000 in
set_option maxRecDepth 100000 in
theorem right (w : World) (N yb s n c cw : Nat) (Aw : Option Addr) (D : List (List Q)) (IV : Nat → Value) (X : Nat → List I54) (hN : N ≤ w.heap.size) (hn : n ≤ 10000000) (hD : D.flatten.length ≤ 10000000)
    (hds : ∀ q ∈ D.flatten, q.ds.length ≤ 10000000) (hes : ∀ q ∈ D.flatten, q.es.length ≤ 10000000) (hit : ∀ j, j < n → (X j).length ≤ 10000000)
    (hy : w.heap[yb]? = some (.cells #[.slice (some ⟨s, 0, none⟩) n c, .slice Aw n cw, .slice none 0 0, .slice none 0 0] 30 (0, 0))) (hB : Book w N s n D IV X)
    (hsame : ∀ W, Below w.heap.size w W → Calls Try.prog 32 #[.slice (some ⟨s, 0, none⟩) n c, .slice Aw n cw] W fun e w' => e = .returned (.bool true) ∧ Below W.heap.size W w') :
    Calls Try.prog 14 #[.pointer (some ⟨yb, 0, none⟩)] w fun e w' => e = .returned (.bool true) ∧ Below N w w' := by
  have HB := Keep.mk hB
  have HS := Keep.mk hsame
  have HL := Keep.mk (And.intro hds (And.intro hes hit))
  have HY := Keep.mk hy
  have hy0 : w.cell? ⟨yb, 0, none⟩ = some (.slice (some ⟨s, 0, none⟩) n c) := by rw [blk_cell hy]; rfl
  have hy1 : w.cell? ⟨yb, 1, none⟩ = some (.slice Aw n cw) := by rw [blk_cell hy]; rfl
  have hy2 : w.cell? ⟨yb, 2, none⟩ = some (.slice none 0 0) := by rw [blk_cell hy]; rfl
  clear hB hsame hds hes hit hy
  have HC := Keep.mk (And.intro hy0 (And.intro hy1 hy2))
  go_enter Try.func14, Try.ntmps14
  go_wp2
  go_region_held3 (fun w' => w'.cell? ⟨yb, 0, none⟩ = some (.slice (some ⟨s, 0, none⟩) n c) ∧ w'.cell? ⟨yb, 1, none⟩ = some (.slice Aw n cw) ∧ Keep (Below w.heap.size w w'))
    (first | exact ⟨HC.out.1, HC.out.2.1, ⟨Below.refl _ _⟩⟩ | exact ⟨ApE.hdr1 HC.out.1, ApE.hdr1 HC.out.2.1, ⟨(Below.refl _ _).drew⟩⟩ | exact ⟨ApE.hc (wr := w.drew) (by assumption) (ApE.hdr1 HC.out.1), ApE.hc (wr := w.drew) (by assumption) (ApE.hdr1 HC.out.2.1), ⟨(Below.refl w.heap.size w).drew.trans (by assumption)⟩⟩)
    (first | (go_at_call 32; (with_reducible refine (HS.out _ (Below.refl _ _).drew).mono ?_); rintro e w1 ⟨rfl, hb⟩))
  have hb1 : Below w.heap.size w w1 := (Below.refl _ _).drew.trans hb
  have HB1 := Keep.mk hb1
  clear hy0 hy1 hy2 hb
  have HK := Keep.mk (HB.out.below hb1)
  have HYC := Keep.mk (And.intro (ApE.hc hb1 HC.out.1) (ApE.hc hb1 HC.out.2.2))
  have HYB := Keep.mk ((hb1.block yb (blk_lt HY.out)).trans HY.out)
  clear HC HY HB HS hb1
  obtain ⟨hy0, hy2⟩ := HYC.out
  go_wp2
  go_loopw [4, 5, 6] (fun v4 v5 v6 w' => v4 = .slice none 0 0 ∧ v5 = .slice none 0 0 ∧ v6 = .int .i64 0 ∧ w' = w1) (fun _ _ _ _ => 0)
  case atStart => exact ⟨rfl, rfl, rfl, rfl⟩
  case round =>
    obtain ⟨rfl, rfl, rfl, rfl⟩ := hrel
    obtain ⟨W0, hW0⟩ : ∃ W0 : World, W0 = wr := ⟨_, rfl⟩
    subst hW0
    go_wp2
    clear hy0 hy2
    have G0 : Keep (Gr W0 W0 (.slice none 0 0) (.slice none 0 0) (pre D 0 0)) := ⟨by rw [pre_zero]; exact ⟨own_nil _ _ _ _, own_nil _ _ _ _, Below.refl _ _⟩⟩
    go_loopw [3, 4, 7] (fun v3 v4 v7 w' => ∃ j : Nat, j ≤ n ∧ v7 = .int .i64 j ∧ Keep (Gr W0 w' v3 v4 (pre D j 0))) (fun _ _ v7 _ => n - (intOf v7).toNat)
    case atStart => exact ⟨0, Nat.zero_le _, rfl, G0⟩
    case round =>
      clear G0
      obtain ⟨j, hj, rfl, HG⟩ := hrel
      have hy0 := ApE.hc HG.out.b HYC.out.1
      by_cases hlt : j < n
      · obtain ⟨Ai, ci, hv0⟩ := (HK.out.below HG.out.b).rows.form hlt
        have hlen := HK.out.len j hlt
        have hXj := HL.out.2.2 j hlt
        rw [hlen] at hv0 hXj
        have hv := Keep.mk hv0
        clear hv0
        obtain ⟨W1, hW1⟩ : ∃ W1 : World, W1 = wr := ⟨_, rfl⟩
        subst hW1
        generalize hm : (D.getD j []).length = m at *
        have Hm := Keep.mk (And.intro hm hlen)
        clear hm hlen
        go_wp2
        clear hy0
        go_loopw [3, 4, 8] (fun v3 v4 v8 w' => ∃ k : Nat, k ≤ m ∧ v8 = .int .i64 k ∧ Keep (Gr W0 w' v3 v4 (pre D j k))) (fun _ _ v8 _ => m - (intOf v8).toNat)
        case atStart => exact ⟨0, Nat.zero_le _, rfl, HG⟩
        case round =>
          clear HG
          obtain ⟨k, hk, rfl, HG⟩ := hrel
          have hy0 := ApE.hc HG.out.b HYC.out.1
          have hci : wr.cell? ⟨s, j * 3, none⟩ = some (.slice Ai m ci) := ((HK.out.below HG.out.b).rows.cell j hlt).trans (by rw [hv.out])
          have hj0 : (0 : Int) ≤ (j : Int) := Int.natCast_nonneg _
          have hj1 : (j : Int) < (n : Int) := by omega
          by_cases hkm : k < m
          · have hkl : k < (D.getD j []).length := by rw [Hm.out.1]; exact hkm
            obtain ⟨ib, hib, hc50, hc60⟩ := HK.out.at_ j k hkl
            have hmem := at_mem hkl
            obtain ⟨Ad, cd, hdv⟩ := (HK.out.drow _ hmem).form
            obtain ⟨Ae, ce, hev⟩ := (HK.out.erow _ hmem).form
            generalize hq : (D.getD j [])[k] = q at *
            have HQ := Keep.mk (And.intro hdv hev)
            have hp1 := Keep.mk ((pre_succ D j k hkl).trans (by rw [hq]))
            rw [hdv] at hc50
            rw [hev] at hc60
            have hc5 := ApE.hc HG.out.b hc50
            have hAi : Ai = some ⟨ib, 0, none⟩ := by
              have hrow := HK.out.rows.row j hlt
              obtain ⟨b, c', h1, _⟩ := hrow.hit (i := k) (List.getElem?_eq_getElem (by rw [Hm.out.2]; exact hkm))
              rw [h1] at hib
              have e1 : b = ib := by simpa [Value.ownBlock] using hib
              rw [hv.out] at h1
              injection h1 with h1 _ _
              rw [h1, e1]
            subst hAi
            clear hq hdv hev hib
            have hk0 : (0 : Int) ≤ (k : Int) := Int.natCast_nonneg _
            have hk1 : (k : Int) < (m : Int) := by omega
            have hpl := pre_le D j k
            generalize hl : pre D j k = l at *
            have hl1 : (l.length + 1) * 24 ≤ 140737488355328 := by omega
            have HF := Keep.mk (And.intro HYC.out.1 (And.intro ((HK.out.rows.cell j hlt).trans (by rw [hv.out]) : W0.cell? ⟨s, j * 3, none⟩ = some (.slice (some ⟨ib, 0, none⟩) m ci)) hc60))
            clear hl hkl hmem hc60 hc50 hpl
            go_wp2_with (first | ((with_reducible refine gate_builtin (b := .append) (xs := #[.tmp 88, .tmp 101]) rfl ?_); at_builtin; refine App.append_keep (w0 := W0) W0.heap.size rfl (.tmp 88) (.tmp 101) 67 51 (.slice none 0 0) 1 24 rfl Try.underlying67 info51 rfl (by decide) (by decide) u3 l.length (l.map Q.dv) [.slice Ad q.ds.length cd] rfl rfl rfl ?a1 HG.out.h HG.out.b ?a3 hl1 ?_; (case a1 => exact (by simp [Value.oneCell'])); (case a3 => exact HG.out.b.size); intro v1 w2 ho hB hg hat hkk; rw [← HQ.out.1] at ho; have HA := Keep.mk (HG.out.appH (q := q) ho hB hg); clear hy0 hci hc5 hB ho hg hat hkk; have hy0 := ApE.hc HA.out.2.2 HF.out.1; have hci := ApE.hc HA.out.2.2 HF.out.2.1; have hc6 := ApE.hc HA.out.2.2 HF.out.2.2) | ((with_reducible refine gate_builtin (b := .append) (xs := #[.tmp 103, .tmp 116]) rfl ?_); at_builtin; refine App.append_keep (w0 := W0) W0.heap.size rfl (.tmp 103) (.tmp 116) 68 52 (.slice none 0 0) 1 24 rfl Try.underlying68 info52 rfl (by decide) (by decide) u4 l.length (l.map Q.ev) [.slice Ae q.es.length ce] rfl rfl rfl ?b1 HA.out.2.1 HA.out.2.2 ?b3 hl1 ?_; (case b1 => exact (by simp [Value.oneCell'])); (case b3 => exact HA.out.2.2.size); intro v2 w3 ho hB hg hat hkk; rw [← HQ.out.2] at ho; have HA2 := Keep.mk (Gr.appE HA.out.1 HA.out.2.1 ho hB hg); clear hy0 hci hc6 hB ho hg hat hkk))
            rw [← hp1.out] at HA2
            clear HG HA
            go_roundw
            case rel => exact ⟨k + 1, by omega, by go_num, HA2⟩
            case measure => simp [intOf]; omega
          · have hkm' : k = m := by omega
            subst hkm'
            go_wp2
            have hpn := pre_next D j (by rw [HK.out.dlen]; exact hlt)
            rw [Hm.out.1] at hpn
            rw [← hpn] at HG
            clear hy0 hci
            go_roundw
            case rel => exact ⟨j + 1, by omega, by go_num, HG⟩
            case measure => simp [intOf]; omega
      · have hjn : n = j := by omega
        subst hjn
        rw [pre_all D n HK.out.dlen] at HG
        clear hlt hj
        have HC2 := Keep.mk (call_all HG.out HK.out (Nat.le_trans hN HB1.out.size) hD HL.out.1 HL.out.2.1 HYB.out)
        go_wp2_with (first | (go_at_call 37; (with_reducible refine (bytes_nil _ _).mono ?_); rintro e w2 ⟨rfl, rfl⟩) | (go_at_call 38; go_loud ((with_reducible refine HC2.out.mono ?_); rintro e w2 ⟨rfl, HK2⟩; have HC3 := Keep.mk HK2.out.2.2.2)) | (go_at_call 39; go_loud ((with_reducible refine HC3.out.mono ?_); rintro e w3 ⟨rfl, HK3⟩; have hy3 : w3.cell? ⟨yb, 0, none⟩ = some (.slice (some ⟨s, 0, none⟩) n c) := by rw [blk_cell HK3.out.1]; rfl)) | (go_at_call 40; go_loud ((with_reducible refine (ApI.apart _ N s n c IV X (Nat.le_trans (Nat.le_trans hN HB1.out.size) HK3.out.2.2.size) hn HL.out.2.2 HK3.out.2.1).mono ?_); rintro e w4 ⟨rfl, hf4⟩)))
        go_ret
        refine ⟨rfl, ?_⟩
        have h3 := ((HB1.out.mono hN).trans HK3.out.2.2)
        exact h3.trans (hf4.toBelow (Nat.le_trans hN h3.size) fun b ⟨j, hj, hb⟩ => (HK3.out.2.1.row j hj).base hb)
end Go.Proofs.Ytochgkepaleblaa.Right
