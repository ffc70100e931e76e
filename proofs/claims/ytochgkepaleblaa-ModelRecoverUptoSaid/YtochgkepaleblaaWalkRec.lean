/- ModelRecover's walk: it answers yes of any two states that are read and small. -/
import Derived.Test.YtochgkepaleblaaTell
import Derived.Test.YtochgkepaleblaaRecPure
import Derived.Deep.DeepCutAuto
set_option linter.unusedVariables false
set_option linter.unusedSimpArgs false
namespace Go.Proofs.Ytochgkepaleblaa.WalkRec
open Go.RowKit Go.Proofs.YtochgkepaleblaaW.PrintWords Go.Proofs.YtochgkepaleblaaW.PrintLast Go.Proofs.YtochgkepaleblaaW.PrintMore
open Go.Proofs.Ytochgkepaleblaa.Rowz Go.Proofs.Ytochgkepaleblaa.Marks Go.Proofs.Ytochgkepaleblaa.Rec Go.Proofs.Ytochgkepaleblaa.ApI Go.Proofs.Ytochgkepaleblaa.Right Go.Proofs.Ytochgkepaleblaa.Fresh Go.Proofs.Ytochgkepaleblaa.Tell
open Go.Proofs.Ytochgkepaleblaa.RecPure

/-- A box of a state. -/
abbrev Box (w : World) (p : Nat) (A : Option Addr) (n c : Nat) (f s : Int) : Prop := w.heap[p]? = some (.cells #[.slice A n c, .int .i64 f, .int .i64 s] 24 (0, 0))
theorem Box.cells {w : World} {p : Nat} {A : Option Addr} {n c : Nat} {f s : Int} (h : Box w p A n c f s) :
    w.cell? ⟨p, 0, none⟩ = some (.slice A n c) ∧ w.cell? ⟨p, 1, none⟩ = some (.int .i64 f) ∧ w.cell? ⟨p, 2, none⟩ = some (.int .i64 s) ∧ p < w.heap.size :=
  ⟨by rw [blk_cell h]; rfl, by rw [blk_cell h]; rfl, by rw [blk_cell h]; rfl, blk_lt h⟩
theorem Box.below {w w1 : World} {p : Nat} {A : Option Addr} {n c : Nat} {f s : Int} (h : Box w p A n c f s) (hb : Below w.heap.size w w1) : Box w1 p A n c f s := (hb.block p (blk_lt h)).trans h
theorem Box.alloc {w : World} {p : Nat} {A : Option Addr} {n c : Nat} {f s : Int} (h : Box w p A n c f s) (o : Obj) : Box (w.alloc o) p A n c f s := h.below ((Below.refl _ _).alloc (Nat.le_refl _) o)
theorem Box.mk (w : World) (A : Option Addr) (n c : Nat) (f s : Int) : Box (w.alloc (.cells #[.slice A n c, .int .i64 f, .int .i64 s] 24)) w.heap.size A n c f s := heap_alloc_last _ _
theorem al (w : World) (o : Obj) : Below w.heap.size w (w.alloc o) := (Below.refl _ _).alloc (Nat.le_refl _) o
/-- A state that was read or made: its items. -/
theorem S_form {w : World} {base : Nat} {ok : Nat → Prop} {v : Value} {xs : List S54} (h : Kd.S k54 54 w base ok v xs) : ∃ A c, v = .slice A xs.length c ∧ xs.length ≤ c ∧ Kd.C k54 w A xs.length xs := by
  obtain ⟨A, c, rfl⟩ := Kd.R_slice (Kd.S_R h)
  obtain ⟨_, h2, h3⟩ := Kd.R_reads' (Kd.S_R h)
  exact ⟨A, c, rfl, h2, h3⟩
/-- A box that is read. -/
abbrev BC (w : World) (p : Nat) (A : Option Addr) (n c : Nat) (f s : Int) : Prop := w.cell? ⟨p, 0, none⟩ = some (.slice A n c) ∧ w.cell? ⟨p, 1, none⟩ = some (.int .i64 f) ∧ w.cell? ⟨p, 2, none⟩ = some (.int .i64 s)
theorem Box.bc {w : World} {p : Nat} {A : Option Addr} {n c : Nat} {f s : Int} (h : Box w p A n c f s) : BC w p A n c f s := ⟨h.cells.1, h.cells.2.1, h.cells.2.2.1⟩
/-- What is held while the six questions are asked. -/
def S9 (w9 w : World) : Prop := Below w9.heap.size w9 w
theorem bcb {w w1 : World} {p : Nat} {A : Option Addr} {n c : Nat} {f s : Int} (h : BC w p A n c f s) (hb : Below w.heap.size w w1) : BC w1 p A n c f s := ⟨ApE.hc hb h.1, ApE.hc hb h.2.1, ApE.hc hb h.2.2⟩
theorem S9of {w9 W : World} {a b c d e f : Prop} (h : a ∧ b ∧ c ∧ d ∧ e ∧ f ∧ S9 w9 W) : Below w9.heap.size w9 W := h.2.2.2.2.2.2
theorem box_grown {w w1 : World} {p : Nat} {A : Option Addr} {n c : Nat} {f s : Int} {row : Option Nat} (h : Box w p A n c f s) (hg : w.grownBy w1 row) (hr : row ≠ some p) : Box w1 p A n c f s := (hg.block p (blk_lt h) (fun e => hr e.symm)).trans h
theorem box_set {w : World} {p yb off : Nat} {A : Option Addr} {n c : Nat} {f s : Int} {u : Value} (h : Box w p A n c f s) (hr : p ≠ yb) : Box (w.setCell ⟨yb, off, none⟩ u) p A n c f s := blk_far (p := ⟨yb, off, none⟩) h hr u
/-- A state more is appended to one of the book's two lists. -/
theorem app_store {W6 w10 w11 : World} {yb off : Nat} {cs : Array Value} {v1 v3 u : Value} {n m B' : Nat} {cells ys cells2 : List Value} (h6 : Below W6.heap.size W6 w10) (hyb : W6.heap.size ≤ yb) (hB' : W6.heap.size ≤ B') (hY : w10.heap[yb]? = some (.cells cs 30 (0, 0)))
    (hO : w10.ownsRow B' 24 3 v1 n cells) (hU : w10.ownsRow B' 24 3 u m cells2) (hne : NeRow v1 u) (hA : w11.ownsRow B' 24 3 v3 (n + 1) (cells ++ ys)) (hg : w10.grownBy w11 v1.ownBlock) (hat : v3.ownBlock = v1.ownBlock ∨ ∃ b, v3.ownBlock = some b ∧ w10.heap.size ≤ b) :
    w11.heap[yb]? = some (.cells cs 30 (0, 0)) ∧ ((w11.setCell ⟨yb, off, none⟩ v3).heap[yb]? = some (.cells (cs.setIfInBounds off v3) 30 (0, 0)) ∧ (w11.setCell ⟨yb, off, none⟩ v3).ownsRow B' 24 3 v3 (n + 1) (cells ++ ys) ∧ (w11.setCell ⟨yb, off, none⟩ v3).ownsRow B' 24 3 u m cells2 ∧ NeRow v3 u ∧ Below W6.heap.size W6 (w11.setCell ⟨yb, off, none⟩ v3)) := by
  have hY1 : w11.heap[yb]? = some (.cells cs 30 (0, 0)) := (hg.block yb (blk_lt hY) (fun e => typed_blk hO hY (by decide) e.symm)).trans hY
  have hU1 : w11.ownsRow B' 24 3 u m cells2 := own_other hU hg (ne_other hne)
  refine ⟨hY1, blk_set hY1 off v3, own_setCell hA (fun e => typed_blk hA hY1 (by decide) e.symm) v3, own_setCell hU1 (fun e => typed_blk hU1 hY1 (by decide) e.symm) v3, fun k hk hk' => ?_, ?_⟩
  · rcases hat with hat | ⟨b, hb, hle⟩
    · exact hne k (hat ▸ hk) hk'
    · have := own_lt hU k hk'
      rw [hb] at hk
      injection hk with hk
      omega
  · have h11 : Below W6.heap.size W6 w11 := h6.grown hg h6.size (fun k hk => Nat.le_trans hB' (own_base hO k hk))
    exact h11.setCell (p := ⟨yb, off, none⟩) hyb v3
theorem bsz {w W : World} {p0 : Nat} (h : Keep (w.heap.size = p0)) (hb : Below p0 w W) : p0 ≤ W.heap.size := by
  rw [← h.out]
  exact hb.size
theorem alloc3 (W : World) (a b c : Obj) : (((W.alloc a).alloc b).alloc c).heap[W.heap.size]? = some a ∧ (((W.alloc a).alloc b).alloc c).heap[W.heap.size + 1]? = some b ∧ (((W.alloc a).alloc b).alloc c).heap[W.heap.size + 2]? = some c ∧ Below W.heap.size W (((W.alloc a).alloc b).alloc c) := by
  refine ⟨?_, ?_, ?_, ((al W a).alloc (by simp) b).alloc (by simp; omega) c⟩
  · rw [heap_alloc_old _ _ (by simp; omega), heap_alloc_old _ _ (by simp)]
    exact heap_alloc_last _ _
  · rw [heap_alloc_old _ _ (by simp)]
    have := heap_alloc_last (W.alloc a) b
    simpa using this
  · have := heap_alloc_last ((W.alloc a).alloc b) c
    simpa using this
theorem N_form {w : World} {base : Nat} {ok : Nat → Prop} {v : Value} {xs : List S54} (h : Kd.N k54 54 w base ok v xs) : ∃ A c, v = .slice A xs.length c ∧ xs.length ≤ c ∧ Kd.C k54 w A xs.length xs := by
  obtain ⟨A, c, rfl⟩ := Kd.N_slice h
  obtain ⟨_, h2, h3⟩ := Kd.N_reads' h
  exact ⟨A, c, rfl, h2, h3⟩
theorem lower {w : World} {N lo lo' hi : Nat} {v : Value} {xs : List S54} {L : List Q} {X : List I54} (h : Piece w N lo hi v xs L X) (hl : lo' ≤ lo) : Piece w N lo' hi v xs L X where
  row := h.row
  xlen := h.xlen
  llen := h.llen
  at_ := h.at_
  drow := h.drow
  erow := h.erow
  dne := h.dne
  ene := h.ene
  of_ := h.of_
  vrng := fun b hb => ⟨Nat.le_trans hl (h.vrng b hb).1, (h.vrng b hb).2⟩
  drng := fun q hq b hb => ⟨Nat.le_trans hl (h.drng q hq b hb).1, (h.drng q hq b hb).2⟩
  erng := fun q hq b hb => ⟨Nat.le_trans hl (h.erng q hq b hb).1, (h.erng q hq b hb).2⟩
/-- A list of states that is read. -/
theorem C24 {W : World} {g n : Nat} {cells : List Value} (hc : ∀ j u, cells[j]? = some u → W.cell? ⟨g, j, none⟩ = some u) (ls : List S24) (hl : ls.length = n) (hn : n ≤ 100)
    (hd : ∀ j x, ls[j]? = some x → ∃ A c, cells[j * 3]? = some (.slice A x.f0.length c) ∧ cells[j * 3 + 1]? = some (.int .i64 x.f1) ∧ cells[j * 3 + 2]? = some (.int .i64 x.f2) ∧ x.f0.length ≤ c ∧ Kd.C k54 W A x.f0.length x.f0) : Kd.C k24 W (some ⟨g, 0, none⟩) n ls := by
  refine ⟨hl, by omega, fun _ => ⟨_, rfl, fun j x hj => ?_⟩⟩
  obtain ⟨A, c, h0, h1, h2, hle, hC⟩ := hd j x hj
  refine ⟨[.slice A x.f0.length c, .int .i64 x.f1, .int .i64 x.f2], rfl, k24_mk W x hle hC, fun i u hi => ?_⟩
  rw [add_plain]
  match i, hi with
  | 0, hi => exact (hc _ _ h0).trans hi
  | 1, hi => exact (hc _ _ h1).trans hi
  | 2, hi => exact (hc _ _ h2).trans hi
  | i + 3, hi => simp at hi
theorem own_blk {w : World} {N n : Nat} {v : Value} {cells : List Value} (h : w.ownsRow N 24 3 v n cells) (hn : 0 < n) : ∃ g cap cur, v = .slice (some ⟨g, 0, none⟩) n cap ∧ n ≤ cap ∧ N ≤ g ∧ w.heap[g]? = some (.cells cur 24 (0, 0)) ∧ ∀ (j : Nat) u, cells[j]? = some u → cur[j]? = some u := by
  rcases h.2 with ⟨_, h0⟩ | ⟨g, cap, cur, hv, hb, hh, hnc, hcm, hcs, htk⟩
  · omega
  · refine ⟨g, cap, cur, hv, hnc, hb, hh, fun j u hj => ?_⟩
    rw [← htk] at hj
    have hl := (List.getElem?_eq_some_iff.1 hj).1
    rw [List.getElem?_take_of_lt (by rw [List.length_take] at hl; omega)] at hj
    simpa using hj
/-- The end: the book is right. -/
theorem finish (wc : World) (pb : Nat) {p0 p2 p4 p5 N' : Nat} {Ax Az Aa Aw A0 Ao Aq : Option Addr} {cx cz ca cw c0 co cq : Nat} {lr l0 : List S54} {fr sr f0 s0 : Int} {Lx Lz La : List Q} {Xx Xz Xa : List I54}
    (hx : Piece wc p0 p2 p4 (.slice Ax lr.length cx) lr Lx Xx) (hz : Piece wc p0 p4 p5 (.slice Az lr.length cz) lr Lz Xz) (ha : Piece wc p0 p0 p2 (.slice Aa l0.length ca) l0 La Xa) (h24 : p2 ≤ p4) (hN : p0 ≤ wc.heap.size)
    (hY : wc.heap[pb]? = some (.cells #[.slice Ao 3 co, .slice Aq 3 cq, nil_, nil_] 30 (0, 0)))
    (hO1 : wc.ownsRow N' 24 3 (.slice Ao 3 co) 3 [.slice Ax lr.length cx, .int .i64 fr, .int .i64 sr, .slice Az lr.length cz, .int .i64 fr, .int .i64 sr, .slice Aa l0.length ca, .int .i64 f0, .int .i64 s0])
    (hO2 : wc.ownsRow N' 24 3 (.slice Aq 3 cq) 3 [.slice Aw lr.length cw, .int .i64 fr, .int .i64 sr, .slice Aw lr.length cw, .int .i64 fr, .int .i64 sr, .slice A0 l0.length c0, .int .i64 f0, .int .i64 s0]) (hN' : p0 ≤ N')
    (sm0 : Small l0) (smr : Small lr) (hsz : 2 * lr.length + l0.length ≤ 10000000)
    (Cx : Kd.C k54 wc Ax lr.length lr) (hcx : lr.length ≤ cx) (Cz : Kd.C k54 wc Az lr.length lr) (hcz : lr.length ≤ cz) (Ca : Kd.C k54 wc Aa l0.length l0) (hca : l0.length ≤ ca) (Cw : Kd.C k54 wc Aw lr.length lr) (hcw : lr.length ≤ cw) (Cs : Kd.C k54 wc A0 l0.length l0) (hc0 : l0.length ≤ c0) :
    Calls Try.prog 14 #[.pointer (some ⟨pb, 0, none⟩)] wc fun e w' => e = .returned (.bool true) ∧ Below p0 wc w' := by
  obtain ⟨g, cap, cur, hv, hcap, hg, hh, hat⟩ := own_blk hO1 (by decide)
  obtain ⟨g2, cap2, cur2, hv2, hcap2, hg2, hh2, hat2⟩ := own_blk hO2 (by decide)
  injection hv with e1 _ e2
  injection hv2 with e3 _ e4
  subst e1 e2 e3 e4
  have hB := book hx hz ha (Nat.le_refl _) (Nat.le_refl _) h24 hh (by omega) (hat 0 _ rfl) (hat 3 _ rfl) (hat 6 _ rfl)
  have hmem : ∀ q ∈ [Lx, Lz, La].flatten, ∃ x : S54, (x ∈ lr ∨ x ∈ l0) ∧ q.ds = x.f5 ∧ q.es = x.f6 := by
    intro q hq
    simp only [List.flatten_cons, List.flatten_nil, List.append_nil, List.mem_append] at hq
    rcases hq with hq | hq | hq
    · obtain ⟨x, h1, h2⟩ := hx.of_ q hq
      exact ⟨x, .inl h1, h2⟩
    · obtain ⟨x, h1, h2⟩ := hz.of_ q hq
      exact ⟨x, .inl h1, h2⟩
    · obtain ⟨x, h1, h2⟩ := ha.of_ q hq
      exact ⟨x, .inr h1, h2⟩
  have hls : ∀ x ∈ [(⟨lr, fr, sr⟩ : S24), ⟨lr, fr, sr⟩, ⟨l0, f0, s0⟩], Small x.f0 := by
    intro x hx
    simp only [List.mem_cons, List.not_mem_nil, or_false] at hx
    rcases hx with rfl | rfl | rfl
    · exact smr
    · exact smr
    · exact sm0
  refine right wc p0 pb g 3 co cq (some ⟨g2, 0, none⟩) _ _ _ hN (by decide) ?_ ?_ ?_ ?_ hY hB ?_
  · simp only [List.flatten_cons, List.flatten_nil, List.append_nil, List.length_append]
    have h1 := hx.llen
    have h2 := hz.llen
    have h3 := ha.llen
    omega
  · intro q hq
    obtain ⟨x, h1, h2, h3⟩ := hmem q hq
    rw [h2]
    exact h1.elim (smr.h x) (sm0.h x)
  · intro q hq
    obtain ⟨x, h1, h2, h3⟩ := hmem q hq
    rw [h3]
    exact h1.elim (smr.e x) (sm0.e x)
  · intro j hj
    match j, hj with
    | 0, _ => rw [show three Xx Xz Xa 0 = Xx from rfl, hx.xlen]; exact smr.n
    | 1, _ => rw [show three Xx Xz Xa 1 = Xz from rfl, hz.xlen]; exact smr.n
    | 2, _ => rw [show three Xx Xz Xa 2 = Xa from rfl, ha.xlen]; exact sm0.n
  · intro W hb
    refine (undercroftref28_SameStates.calls 100000000 _ co [⟨lr, fr, sr⟩, ⟨lr, fr, sr⟩, ⟨l0, f0, s0⟩] _ cq [⟨lr, fr, sr⟩, ⟨lr, fr, sr⟩, ⟨l0, f0, s0⟩] true W ?_ hcap ?_ hcap2 (states _ hls (by simp) _ (by decide))).mono fun e w' h => h
    · refine C24 (cells := [.slice Ax lr.length cx, .int .i64 fr, .int .i64 sr, .slice Az lr.length cz, .int .i64 fr, .int .i64 sr, .slice Aa l0.length ca, .int .i64 f0, .int .i64 s0]) (fun j u hj => by rw [blk_cell ((hb.block g (blk_lt hh)).trans hh)]; exact hat j u hj) _ rfl (Nat.le_of_ble_eq_true rfl) fun j x hj => ?_
      match j, hj with
      | 0, hj => obtain rfl := Option.some.inj hj; exact ⟨Ax, cx, rfl, rfl, rfl, hcx, Kd.C_below Cx hb⟩
      | 1, hj => obtain rfl := Option.some.inj hj; exact ⟨Az, cz, rfl, rfl, rfl, hcz, Kd.C_below Cz hb⟩
      | 2, hj => obtain rfl := Option.some.inj hj; exact ⟨Aa, ca, rfl, rfl, rfl, hca, Kd.C_below Ca hb⟩
      | j + 3, hj => simp at hj
    · refine C24 (cells := [.slice Aw lr.length cw, .int .i64 fr, .int .i64 sr, .slice Aw lr.length cw, .int .i64 fr, .int .i64 sr, .slice A0 l0.length c0, .int .i64 f0, .int .i64 s0]) (fun j u hj => by rw [blk_cell ((hb.block g2 (blk_lt hh2)).trans hh2)]; exact hat2 j u hj) _ rfl (Nat.le_of_ble_eq_true rfl) fun j x hj => ?_
      match j, hj with
      | 0, hj => obtain rfl := Option.some.inj hj; exact ⟨Aw, cw, rfl, rfl, rfl, hcw, Kd.C_below Cw hb⟩
      | 1, hj => obtain rfl := Option.some.inj hj; exact ⟨Aw, cw, rfl, rfl, rfl, hcw, Kd.C_below Cw hb⟩
      | 2, hj => obtain rfl := Option.some.inj hj; exact ⟨A0, c0, rfl, rfl, rfl, hc0, Kd.C_below Cs hb⟩
      | j + 3, hj => simp at hj
abbrev KK : Nat := 100000000
set_option maxHeartbeats 4000000 in
set_option maxRecDepth 100000 in
theorem walk (w : World) (A0 A1 : Option Addr) (c0 c1 : Nat) (l0 l1 : List S54) (f0 s0 f1 s1 : Int) (hs0 : Small l0) (hs1 : Small l1) (h0 : Kd.V k54 54 w w.heap.size (fun _ => True) (.slice A0 l0.length c0) l0) (h1 : Kd.V k54 54 w w.heap.size (fun _ => True) (.slice A1 l1.length c1) l1)
    (hq : 3 * l0.length ≤ 10000000) :
    Calls Try.prog 3 #[.agg #[.slice A0 l0.length c0, .int .i64 f0, .int .i64 s0], .agg #[.slice A1 l1.length c1, .int .i64 f1, .int .i64 s1]] w fun e w' => e = .returned (.bool true) ∧ Below w.heap.size w w' := by
  obtain ⟨_, hc0, hf0⟩ := Kd.V_reads' h0
  obtain ⟨_, hc1, hf1⟩ := Kd.V_reads' h1
  have HI := Keep.mk (And.intro hs0 (And.intro hs1 hq))
  have HV := Keep.mk (And.intro h0 h1)
  have HC := Keep.mk (And.intro (And.intro hc0 hf0) (And.intro hc1 hf1))
  clear hs0 hs1 hq h0 h1 hc0 hf0 hc1 hf1
  go_enter Try.func3, Try.ntmps3
  go_wp2_with fail
  -- a, b := Copy(s), Copy(t)
  obtain ⟨W0, hW0⟩ : ∃ W0, W0 = (w.alloc (.cells #[.slice A0 l0.length c0, .int .i64 f0, .int .i64 s0] 24)).alloc (.cells #[.slice A1 l1.length c1, .int .i64 f1, .int .i64 s1] 24) := ⟨_, rfl⟩
  rw [← hW0]
  have HB0 := Keep.mk (show Below w.heap.size w W0 by rw [hW0]; exact (al w _).alloc (by simp) _)
  have BS := Keep.mk (show Box W0 w.heap.size A0 l0.length c0 f0 s0 by rw [hW0]; exact (Box.mk w _ _ _ _ _).alloc _)
  have BT := Keep.mk (show Box W0 (w.heap.size + 1) A1 l1.length c1 f1 s1 by rw [hW0]; simpa using Box.mk (w.alloc (.cells #[.slice A0 l0.length c0, .int .i64 f0, .int .i64 s0] 24)) A1 l1.length c1 f1 s1)
  have hn0 : W0.heap.size = w.heap.size + 2 := by rw [hW0]; simp
  have HN0 := Keep.mk hn0
  clear hW0 hn0
  generalize w.heap.size + 1 = p1 at *
  have hB0 : Below w.heap.size w W0 := HB0.out
  have hC0 := Kd.C_below HC.out.1.2 hB0
  have hC1 := Kd.C_below HC.out.2.2 hB0
  have hV0 := Kd.V_below HV.out.1 hB0
  clear hB0
  have B_0 := Keep.mk (HB0.out)
  have BS_0 := Keep.mk (BS.out)
  have BT_0 := Keep.mk (BT.out)
  have CS_0 := Keep.mk (hC0)
  have CT_0 := Keep.mk (hC1)
  have VS_0 := Keep.mk (hV0)
  clear hC0 hC1 hV0 HB0 BS BT HV
  generalize hp0 : w.heap.size = p0 at *
  have HP0 := Keep.mk hp0
  clear hp0
  have hN : p0 ≤ W0.heap.size := by
    have h1 := B_0.out.size
    have h2 := HP0.out
    omega
  have hlo : p0 ≤ W0.heap.size := hN
  refine (undercroftref28_Copy.calls KK A0 c0 l0 f0 s0 l0 f0 s0 _ CS_0.out HC.out.1.1 (copy l0 HI.out.1 f0 s0 KK (by decide))).mono ?_
  rintro e w1 ⟨va, rfl, hS, hb⟩
  have B_1 := Keep.mk (B_0.out.trans (hb.mono (bsz HP0 B_0.out)))
  clear B_0
  have BS_1 := Keep.mk (BS_0.out.below hb)
  clear BS_0
  have BT_1 := Keep.mk (BT_0.out.below hb)
  clear BT_0
  have CS_1 := Keep.mk (Kd.C_below CS_0.out hb)
  clear CS_0
  have CT_1 := Keep.mk (Kd.C_below CT_0.out hb)
  clear CT_0
  have VS_1 := Keep.mk (Kd.V_below VS_0.out hb)
  clear VS_0
  obtain ⟨Aa, ca, rfl, hca, hCa⟩ := S_form hS
  have HCAa := Keep.mk hca
  obtain ⟨La, Xa, hP⟩ := piece hS hN
  have Pa_0 := Keep.mk (lower hP hlo)
  clear hP hlo
  have Ca_0 := Keep.mk (hCa)
  clear hS hb hca hCa hN
  obtain ⟨t0, t1, t2, t3⟩ := BT_1.out.cells
  go_wp2_with fail
  clear t0 t1 t2 t3
  obtain ⟨W1, hW⟩ : ∃ W, W = w1.alloc (.cells #[.slice Aa l0.length ca, .int .i64 f0, .int .i64 s0] 24) := ⟨_, rfl⟩
  rw [← hW]
  have hb : Below w1.heap.size w1 W1 := by rw [hW]; exact al _ _
  have B_2 := Keep.mk (B_1.out.trans (hb.mono (bsz HP0 B_1.out)))
  clear B_1
  have BS_2 := Keep.mk (BS_1.out.below hb)
  clear BS_1
  have BT_2 := Keep.mk (BT_1.out.below hb)
  clear BT_1
  have CS_2 := Keep.mk (Kd.C_below CS_1.out hb)
  clear CS_1
  have CT_2 := Keep.mk (Kd.C_below CT_1.out hb)
  clear CT_1
  have VS_2 := Keep.mk (Kd.V_below VS_1.out hb)
  clear VS_1
  have Pa_1 := Keep.mk (Pa_0.out.below hb)
  clear Pa_0
  have Ca_1 := Keep.mk (Kd.C_below Ca_0.out hb)
  clear Ca_0
  have Ba_0 := Keep.mk (show Box W1 w1.heap.size Aa l0.length ca f0 s0 from by rw [hW]; exact Box.mk _ _ _ _ _ _)
  clear hW hb
  generalize w1.heap.size = p2 at *
  have hN : p0 ≤ W1.heap.size := by
    have h1 := B_2.out.size
    have h2 := HP0.out
    omega
  refine (undercroftref28_Copy.calls KK A1 c1 l1 f1 s1 l1 f1 s1 _ CT_2.out HC.out.2.1 (copy l1 HI.out.2.1 f1 s1 KK (by decide))).mono ?_
  rintro e w2 ⟨vb, rfl, hS, hb⟩
  have B_3 := Keep.mk (B_2.out.trans (hb.mono (bsz HP0 B_2.out)))
  clear B_2
  have BS_3 := Keep.mk (BS_2.out.below hb)
  clear BS_2
  have BT_3 := Keep.mk (BT_2.out.below hb)
  clear BT_2
  have CS_3 := Keep.mk (Kd.C_below CS_2.out hb)
  clear CS_2
  have CT_3 := Keep.mk (Kd.C_below CT_2.out hb)
  clear CT_2
  have VS_3 := Keep.mk (Kd.V_below VS_2.out hb)
  clear VS_2
  have Pa_2 := Keep.mk (Pa_1.out.below hb)
  clear Pa_1
  have Ca_2 := Keep.mk (Kd.C_below Ca_1.out hb)
  clear Ca_1
  have Ba_1 := Keep.mk (Ba_0.out.below hb)
  clear Ba_0
  obtain ⟨Ab, cb, rfl, hca, hCa⟩ := S_form hS
  have HCAb := Keep.mk hca
  have Cb_0 := Keep.mk (hCa)
  clear hS hb hca hCa hN
  obtain ⟨t0, t1, t2, t3⟩ := Ba_1.out.cells
  go_wp2_with fail
  clear t0 t1 t2 t3
  obtain ⟨W2, hW⟩ : ∃ W, W = w2.alloc (.cells #[.slice Ab l1.length cb, .int .i64 f1, .int .i64 s1] 24) := ⟨_, rfl⟩
  rw [← hW]
  have hb : Below w2.heap.size w2 W2 := by rw [hW]; exact al _ _
  have B_4 := Keep.mk (B_3.out.trans (hb.mono (bsz HP0 B_3.out)))
  clear B_3
  have BS_4 := Keep.mk (BS_3.out.below hb)
  clear BS_3
  have BT_4 := Keep.mk (BT_3.out.below hb)
  clear BT_3
  have CS_4 := Keep.mk (Kd.C_below CS_3.out hb)
  clear CS_3
  have CT_4 := Keep.mk (Kd.C_below CT_3.out hb)
  clear CT_3
  have VS_4 := Keep.mk (Kd.V_below VS_3.out hb)
  clear VS_3
  have Pa_3 := Keep.mk (Pa_2.out.below hb)
  clear Pa_2
  have Ca_3 := Keep.mk (Kd.C_below Ca_2.out hb)
  clear Ca_2
  have Ba_2 := Keep.mk (Ba_1.out.below hb)
  clear Ba_1
  have Cb_1 := Keep.mk (Kd.C_below Cb_0.out hb)
  clear Cb_0
  have Bb_0 := Keep.mk (show Box W2 w2.heap.size Ab l1.length cb f1 s1 from by rw [hW]; exact Box.mk _ _ _ _ _ _)
  clear hW hb
  generalize w2.heap.size = p3 at *
  obtain ⟨lr, fr, sr, hr⟩ : ∃ lr fr sr, rec3 l0 [] f0 s0 = (lr, fr, sr) := ⟨_, _, _, rfl⟩
  have HR := Keep.mk (And.intro hr (show Small lr by have := small_rec HI.out.1 f0 s0; rw [hr] at this; exact this))
  have hlr : lr.length ≤ l0.length := by
    have := rec3_len l0 [] f0 s0
    rw [hr] at this
    simpa using this
  have HLR := Keep.mk hlr
  clear hr hlr
  have hN : p0 ≤ W2.heap.size := by
    have h1 := B_4.out.size
    have h2 := HP0.out
    omega
  have hlo : p2 ≤ W2.heap.size := Nat.le_of_lt (blk_lt Ba_2.out)
  refine (model_Recover.calls KK Aa ca l0 f0 s0 lr fr sr _ Ca_3.out HCAa.out ((mrec l0 HI.out.1 f0 s0 KK (by decide)).trans (by rw [HR.out.1]))).mono ?_
  rintro e w3 ⟨vx, rfl, hS, hb⟩
  have B_5 := Keep.mk (B_4.out.trans (hb.mono (bsz HP0 B_4.out)))
  clear B_4
  have BS_5 := Keep.mk (BS_4.out.below hb)
  clear BS_4
  have BT_5 := Keep.mk (BT_4.out.below hb)
  clear BT_4
  have CS_5 := Keep.mk (Kd.C_below CS_4.out hb)
  clear CS_4
  have CT_5 := Keep.mk (Kd.C_below CT_4.out hb)
  clear CT_4
  have VS_5 := Keep.mk (Kd.V_below VS_4.out hb)
  clear VS_4
  have Pa_4 := Keep.mk (Pa_3.out.below hb)
  clear Pa_3
  have Ca_4 := Keep.mk (Kd.C_below Ca_3.out hb)
  clear Ca_3
  have Ba_3 := Keep.mk (Ba_2.out.below hb)
  clear Ba_2
  have Cb_2 := Keep.mk (Kd.C_below Cb_1.out hb)
  clear Cb_1
  have Bb_1 := Keep.mk (Bb_0.out.below hb)
  clear Bb_0
  obtain ⟨Ax, cx, rfl, hca, hCa⟩ := S_form hS
  have HCAx := Keep.mk hca
  obtain ⟨Lx, Xx, hP⟩ := piece hS hN
  have Px_0 := Keep.mk (lower hP hlo)
  clear hP hlo
  have Cx_0 := Keep.mk (hCa)
  clear hS hb hca hCa hN
  obtain ⟨t0, t1, t2, t3⟩ := Ba_3.out.cells
  go_wp2_with fail
  clear t0 t1 t2 t3
  obtain ⟨W3, hW⟩ : ∃ W, W = w3.alloc (.cells #[.slice Ax lr.length cx, .int .i64 fr, .int .i64 sr] 24) := ⟨_, rfl⟩
  rw [← hW]
  have hb : Below w3.heap.size w3 W3 := by rw [hW]; exact al _ _
  have BAX := Ba_3
  have B_6 := Keep.mk (B_5.out.trans (hb.mono (bsz HP0 B_5.out)))
  clear B_5
  have BS_6 := Keep.mk (BS_5.out.below hb)
  clear BS_5
  have BT_6 := Keep.mk (BT_5.out.below hb)
  clear BT_5
  have CS_6 := Keep.mk (Kd.C_below CS_5.out hb)
  clear CS_5
  have CT_6 := Keep.mk (Kd.C_below CT_5.out hb)
  clear CT_5
  have VS_6 := Keep.mk (Kd.V_below VS_5.out hb)
  clear VS_5
  have Pa_5 := Keep.mk (Pa_4.out.below hb)
  clear Pa_4
  have Ca_5 := Keep.mk (Kd.C_below Ca_4.out hb)
  clear Ca_4
  have Ba_4 := Keep.mk (Ba_3.out.below hb)
  clear Ba_3
  have Cb_3 := Keep.mk (Kd.C_below Cb_2.out hb)
  clear Cb_2
  have Bb_2 := Keep.mk (Bb_1.out.below hb)
  clear Bb_1
  have Px_1 := Keep.mk (Px_0.out.below hb)
  clear Px_0
  have Cx_1 := Keep.mk (Kd.C_below Cx_0.out hb)
  clear Cx_0
  have Bx_0 := Keep.mk (show Box W3 w3.heap.size Ax lr.length cx fr sr from by rw [hW]; exact Box.mk _ _ _ _ _ _)
  have h24 : p2 ≤ w3.heap.size := Nat.le_of_lt (blk_lt (show Box w3 p2 Aa l0.length ca f0 s0 from BAX.out))
  clear BAX
  clear hW hb
  generalize w3.heap.size = p4 at *
  have H24 := Keep.mk h24
  clear h24
  have hN : p0 ≤ W3.heap.size := by
    have h1 := B_6.out.size
    have h2 := HP0.out
    omega
  have hlo : p4 ≤ W3.heap.size := Nat.le_of_lt (blk_lt Bx_0.out)
  refine (model_Recover.calls KK Aa ca l0 f0 s0 lr fr sr _ Ca_5.out HCAa.out ((mrec l0 HI.out.1 f0 s0 KK (by decide)).trans (by rw [HR.out.1]))).mono ?_
  rintro e w4 ⟨vz, rfl, hS, hb⟩
  have B_7 := Keep.mk (B_6.out.trans (hb.mono (bsz HP0 B_6.out)))
  clear B_6
  have BS_7 := Keep.mk (BS_6.out.below hb)
  clear BS_6
  have BT_7 := Keep.mk (BT_6.out.below hb)
  clear BT_6
  have CS_7 := Keep.mk (Kd.C_below CS_6.out hb)
  clear CS_6
  have CT_7 := Keep.mk (Kd.C_below CT_6.out hb)
  clear CT_6
  have VS_7 := Keep.mk (Kd.V_below VS_6.out hb)
  clear VS_6
  have Pa_6 := Keep.mk (Pa_5.out.below hb)
  clear Pa_5
  have Ca_6 := Keep.mk (Kd.C_below Ca_5.out hb)
  clear Ca_5
  have Ba_5 := Keep.mk (Ba_4.out.below hb)
  clear Ba_4
  have Cb_4 := Keep.mk (Kd.C_below Cb_3.out hb)
  clear Cb_3
  have Bb_3 := Keep.mk (Bb_2.out.below hb)
  clear Bb_2
  have Px_2 := Keep.mk (Px_1.out.below hb)
  clear Px_1
  have Cx_2 := Keep.mk (Kd.C_below Cx_1.out hb)
  clear Cx_1
  have Bx_1 := Keep.mk (Bx_0.out.below hb)
  clear Bx_0
  obtain ⟨Az, cz, rfl, hca, hCa⟩ := S_form hS
  have HCAz := Keep.mk hca
  obtain ⟨Lz, Xz, hP⟩ := piece hS hN
  have Pz_0 := Keep.mk (lower hP hlo)
  clear hP hlo
  have Cz_0 := Keep.mk (hCa)
  clear hS hb hca hCa hN
  obtain ⟨t0, t1, t2, t3⟩ := BS_7.out.cells
  go_wp2_with fail
  clear t0 t1 t2 t3
  obtain ⟨W4, hW⟩ : ∃ W, W = w4.alloc (.cells #[.slice Az lr.length cz, .int .i64 fr, .int .i64 sr] 24) := ⟨_, rfl⟩
  rw [← hW]
  have hb : Below w4.heap.size w4 W4 := by rw [hW]; exact al _ _
  have B_8 := Keep.mk (B_7.out.trans (hb.mono (bsz HP0 B_7.out)))
  clear B_7
  have BS_8 := Keep.mk (BS_7.out.below hb)
  clear BS_7
  have BT_8 := Keep.mk (BT_7.out.below hb)
  clear BT_7
  have CS_8 := Keep.mk (Kd.C_below CS_7.out hb)
  clear CS_7
  have CT_8 := Keep.mk (Kd.C_below CT_7.out hb)
  clear CT_7
  have VS_8 := Keep.mk (Kd.V_below VS_7.out hb)
  clear VS_7
  have Pa_7 := Keep.mk (Pa_6.out.below hb)
  clear Pa_6
  have Ca_7 := Keep.mk (Kd.C_below Ca_6.out hb)
  clear Ca_6
  have Ba_6 := Keep.mk (Ba_5.out.below hb)
  clear Ba_5
  have Cb_5 := Keep.mk (Kd.C_below Cb_4.out hb)
  clear Cb_4
  have Bb_4 := Keep.mk (Bb_3.out.below hb)
  clear Bb_3
  have Px_3 := Keep.mk (Px_2.out.below hb)
  clear Px_2
  have Cx_3 := Keep.mk (Kd.C_below Cx_2.out hb)
  clear Cx_2
  have Bx_2 := Keep.mk (Bx_1.out.below hb)
  clear Bx_1
  have Pz_1 := Keep.mk (Pz_0.out.below hb)
  clear Pz_0
  have Cz_1 := Keep.mk (Kd.C_below Cz_0.out hb)
  clear Cz_0
  have Bz_0 := Keep.mk (show Box W4 w4.heap.size Az lr.length cz fr sr from by rw [hW]; exact Box.mk _ _ _ _ _ _)
  clear hW hb
  generalize w4.heap.size = p5 at *
  have hN : p0 ≤ W4.heap.size := by
    have h1 := B_8.out.size
    have h2 := HP0.out
    omega
  refine (undercroftref28_Recover.calls KK (fun _ => True) A0 c0 l0 f0 s0 lr fr sr _ VS_8.out ((rrec l0 HI.out.1 f0 s0 KK (by decide)).trans (by rw [HR.out.1]))).mono ?_
  rintro e w5 ⟨vw, rfl, hS, hb⟩
  have B_9 := Keep.mk (B_8.out.trans (hb.mono (bsz HP0 B_8.out)))
  clear B_8
  have BS_9 := Keep.mk (BS_8.out.below hb)
  clear BS_8
  have BT_9 := Keep.mk (BT_8.out.below hb)
  clear BT_8
  have CS_9 := Keep.mk (Kd.C_below CS_8.out hb)
  clear CS_8
  have CT_9 := Keep.mk (Kd.C_below CT_8.out hb)
  clear CT_8
  have VS_9 := Keep.mk (Kd.V_below VS_8.out hb)
  clear VS_8
  have Pa_8 := Keep.mk (Pa_7.out.below hb)
  clear Pa_7
  have Ca_8 := Keep.mk (Kd.C_below Ca_7.out hb)
  clear Ca_7
  have Ba_7 := Keep.mk (Ba_6.out.below hb)
  clear Ba_6
  have Cb_6 := Keep.mk (Kd.C_below Cb_5.out hb)
  clear Cb_5
  have Bb_5 := Keep.mk (Bb_4.out.below hb)
  clear Bb_4
  have Px_4 := Keep.mk (Px_3.out.below hb)
  clear Px_3
  have Cx_4 := Keep.mk (Kd.C_below Cx_3.out hb)
  clear Cx_3
  have Bx_3 := Keep.mk (Bx_2.out.below hb)
  clear Bx_2
  have Pz_2 := Keep.mk (Pz_1.out.below hb)
  clear Pz_1
  have Cz_2 := Keep.mk (Kd.C_below Cz_1.out hb)
  clear Cz_1
  have Bz_1 := Keep.mk (Bz_0.out.below hb)
  clear Bz_0
  obtain ⟨Aw, cw, rfl, hca, hCa⟩ := N_form hS
  have HCAw := Keep.mk hca
  have Cw_0 := Keep.mk (hCa)
  clear hS hb hca hCa hN
  obtain ⟨x0, x1, x2, x3⟩ := Bx_3.out.cells
  obtain ⟨z0, z1, z2, z3⟩ := Bz_1.out.cells
  go_wp2_with fail
  clear x0 x1 x2 x3
  clear z0 z1 z2 z3
  obtain ⟨W6, hW⟩ : ∃ W, W = w5.alloc (.cells #[.slice Aw lr.length cw, .int .i64 fr, .int .i64 sr] 24) := ⟨_, rfl⟩
  rw [← hW]
  have hb : Below w5.heap.size w5 W6 := by rw [hW]; exact al _ _
  have h6 : W6.heap.size = w5.heap.size + 1 := by rw [hW]; simp
  have B_10 := Keep.mk (B_9.out.trans (hb.mono (bsz HP0 B_9.out)))
  clear B_9
  have BS_10 := Keep.mk (BS_9.out.below hb)
  clear BS_9
  have BT_10 := Keep.mk (BT_9.out.below hb)
  clear BT_9
  have CS_10 := Keep.mk (Kd.C_below CS_9.out hb)
  clear CS_9
  have CT_10 := Keep.mk (Kd.C_below CT_9.out hb)
  clear CT_9
  have VS_10 := Keep.mk (Kd.V_below VS_9.out hb)
  clear VS_9
  have Pa_9 := Keep.mk (Pa_8.out.below hb)
  clear Pa_8
  have Ca_9 := Keep.mk (Kd.C_below Ca_8.out hb)
  clear Ca_8
  have Ba_8 := Keep.mk (Ba_7.out.below hb)
  clear Ba_7
  have Cb_7 := Keep.mk (Kd.C_below Cb_6.out hb)
  clear Cb_6
  have Bb_6 := Keep.mk (Bb_5.out.below hb)
  clear Bb_5
  have Px_5 := Keep.mk (Px_4.out.below hb)
  clear Px_4
  have Cx_5 := Keep.mk (Kd.C_below Cx_4.out hb)
  clear Cx_4
  have Bx_4 := Keep.mk (Bx_3.out.below hb)
  clear Bx_3
  have Pz_3 := Keep.mk (Pz_2.out.below hb)
  clear Pz_2
  have Cz_3 := Keep.mk (Kd.C_below Cz_2.out hb)
  clear Cz_2
  have Bz_2 := Keep.mk (Bz_1.out.below hb)
  clear Bz_1
  have Cw_1 := Keep.mk (Kd.C_below Cw_0.out hb)
  clear Cw_0
  have Bw_0 := Keep.mk (show Box W6 w5.heap.size Aw lr.length cw fr sr from by rw [hW]; exact Box.mk _ _ _ _ _ _)
  clear hW hb
  generalize w5.heap.size = p6 at *
  have H6 := Keep.mk h6
  clear h6
  obtain ⟨W7, hW⟩ : ∃ W, W = ((W6.alloc (.cells #[nil_, nil_, nil_, nil_] 30)).alloc (.cells #[.slice Ax lr.length cx, .int .i64 fr, .int .i64 sr, .slice Az lr.length cz, .int .i64 fr, .int .i64 sr] 24)).alloc (.cells #[.slice Aw lr.length cw, .int .i64 fr, .int .i64 sr, .slice Aw lr.length cw, .int .i64 fr, .int .i64 sr] 24) := ⟨_, rfl⟩
  rw [← hW]
  obtain ⟨hy7, hx8, hw9, hb67⟩ := alloc3 W6 (.cells #[nil_, nil_, nil_, nil_] 30) (.cells #[.slice Ax lr.length cx, .int .i64 fr, .int .i64 sr, .slice Az lr.length cz, .int .i64 fr, .int .i64 sr] 24) (.cells #[.slice Aw lr.length cw, .int .i64 fr, .int .i64 sr, .slice Aw lr.length cw, .int .i64 fr, .int .i64 sr] 24)
  rw [← hW, H6.out] at hy7 hx8 hw9
  rw [← hW] at hb67
  clear hW
  refine (tell W7 (p6 + 1) (p6 + 1 + 1) (p6 + 1 + 2) [.slice Ax lr.length cx, .int .i64 fr, .int .i64 sr, .slice Az lr.length cz, .int .i64 fr, .int .i64 sr] [.slice Aw lr.length cw, .int .i64 fr, .int .i64 sr, .slice Aw lr.length cw, .int .i64 fr, .int .i64 sr] rfl rfl (by simp [Value.oneCell']) (by simp [Value.oneCell']) hy7 hx8 hw9
    (undercroftref28_SameStates.calls KK _ 2 [⟨lr, fr, sr⟩, ⟨lr, fr, sr⟩] _ 2 [⟨lr, fr, sr⟩, ⟨lr, fr, sr⟩] true W7 ?c1 (Nat.le_refl _) ?c2 (Nat.le_refl _) (states _ (by simp [HR.out.2]) (by simp) KK (by decide)))).mono ?_
  case c1 =>
    refine C24 (cells := [.slice Ax lr.length cx, .int .i64 fr, .int .i64 sr, .slice Az lr.length cz, .int .i64 fr, .int .i64 sr]) (fun j u hj => by rw [blk_cell hx8]; simpa using hj) _ rfl (Nat.le_of_ble_eq_true rfl) fun j x hj => ?_
    match j, hj with
    | 0, hj => obtain rfl := Option.some.inj hj; exact ⟨Ax, cx, rfl, rfl, rfl, HCAx.out, Kd.C_below Cx_5.out hb67⟩
    | 1, hj => obtain rfl := Option.some.inj hj; exact ⟨Az, cz, rfl, rfl, rfl, HCAz.out, Kd.C_below Cz_3.out hb67⟩
    | j + 2, hj => simp at hj
  case c2 =>
    refine C24 (cells := [.slice Aw lr.length cw, .int .i64 fr, .int .i64 sr, .slice Aw lr.length cw, .int .i64 fr, .int .i64 sr]) (fun j u hj => by rw [blk_cell hw9]; simpa using hj) _ rfl (Nat.le_of_ble_eq_true rfl) fun j x hj => ?_
    match j, hj with
    | 0, hj => obtain rfl := Option.some.inj hj; exact ⟨Aw, cw, rfl, rfl, rfl, HCAw.out, Kd.C_below Cw_1.out hb67⟩
    | 1, hj => obtain rfl := Option.some.inj hj; exact ⟨Aw, cw, rfl, rfl, rfl, HCAw.out, Kd.C_below Cw_1.out hb67⟩
    | j + 2, hj => simp at hj
  rintro e w8 ⟨rfl, v1, v2, hy8, ho1, ho2, hne, hfar⟩
  have hb : Below W6.heap.size W6 w8 := hb67.trans (hfar.toBelow hb67.size fun b hb => by rw [hb, H6.out]; exact Nat.le_refl _)
  have hbase : p6 + 1 ≤ W7.heap.size := by rw [← H6.out]; exact hb67.size
  have hfz := True.intro
  have B_11 := Keep.mk (B_10.out.trans (hb.mono (bsz HP0 B_10.out)))
  have BS_11 := Keep.mk (BS_10.out.below hb)
  have BT_11 := Keep.mk (BT_10.out.below hb)
  have CS_11 := Keep.mk (Kd.C_below CS_10.out hb)
  have CT_11 := Keep.mk (Kd.C_below CT_10.out hb)
  have VS_11 := Keep.mk (Kd.V_below VS_10.out hb)
  have Pa_10 := Keep.mk (Pa_9.out.below hb)
  have Ca_10 := Keep.mk (Kd.C_below Ca_9.out hb)
  have Ba_9 := Keep.mk (Ba_8.out.below hb)
  have Cb_8 := Keep.mk (Kd.C_below Cb_7.out hb)
  have Bb_7 := Keep.mk (Bb_6.out.below hb)
  have Px_6 := Keep.mk (Px_5.out.below hb)
  have Cx_6 := Keep.mk (Kd.C_below Cx_5.out hb)
  have Bx_5 := Keep.mk (Bx_4.out.below hb)
  have Pz_4 := Keep.mk (Pz_3.out.below hb)
  have Cz_4 := Keep.mk (Kd.C_below Cz_3.out hb)
  have Bz_3 := Keep.mk (Bz_2.out.below hb)
  have Cw_2 := Keep.mk (Kd.C_below Cw_1.out hb)
  have Bw_1 := Keep.mk (Bw_0.out.below hb)
  have B6_0 := Keep.mk (hb)
  obtain ⟨Av, cv, rfl⟩ := own_slice ho1
  obtain ⟨Au, cu, rfl⟩ := own_slice ho2
  have NE := Keep.mk hne
  clear hne
  have Y_0 := Keep.mk (hy8)
  have O1_0 := Keep.mk (own_weaken ho1 hbase)
  have O2_0 := Keep.mk (own_weaken ho2 hbase)
  clear hb hy8 ho1 ho2 hfar hbase hb67 hy7 hx8 hw9
  obtain ⟨a0, a1, a2, a3⟩ := Ba_9.out.cells
  obtain ⟨t0, t1, t2, t3⟩ := BS_11.out.cells
  go_wp2_with fail
  clear a0 a1 a2 a3
  clear t0 t1 t2 t3
  refine (undercroftref28_Same.calls KK Aa ca l0 f0 s0 A0 c0 l0 f0 s0 true _ Ca_10.out HCAa.out CS_11.out HC.out.1.1 ((rsame l0 l0 HI.out.1 f0 s0 f0 s0 KK (by decide)).trans (by rw [eqS_self]))).mono ?_
  rintro e w9 ⟨rfl, hb⟩
  have B_12 := Keep.mk (B_11.out.trans (hb.mono (bsz HP0 B_11.out)))
  clear B_11
  have BS_12 := Keep.mk (BS_11.out.below hb)
  clear BS_11
  have BT_12 := Keep.mk (BT_11.out.below hb)
  clear BT_11
  have CS_12 := Keep.mk (Kd.C_below CS_11.out hb)
  clear CS_11
  have CT_12 := Keep.mk (Kd.C_below CT_11.out hb)
  clear CT_11
  have VS_12 := Keep.mk (Kd.V_below VS_11.out hb)
  clear VS_11
  have Pa_11 := Keep.mk (Pa_10.out.below hb)
  clear Pa_10
  have Ca_11 := Keep.mk (Kd.C_below Ca_10.out hb)
  clear Ca_10
  have Ba_10 := Keep.mk (Ba_9.out.below hb)
  clear Ba_9
  have Cb_9 := Keep.mk (Kd.C_below Cb_8.out hb)
  clear Cb_8
  have Bb_8 := Keep.mk (Bb_7.out.below hb)
  clear Bb_7
  have Px_7 := Keep.mk (Px_6.out.below hb)
  clear Px_6
  have Cx_7 := Keep.mk (Kd.C_below Cx_6.out hb)
  clear Cx_6
  have Bx_6 := Keep.mk (Bx_5.out.below hb)
  clear Bx_5
  have Pz_5 := Keep.mk (Pz_4.out.below hb)
  clear Pz_4
  have Cz_5 := Keep.mk (Kd.C_below Cz_4.out hb)
  clear Cz_4
  have Bz_4 := Keep.mk (Bz_3.out.below hb)
  clear Bz_3
  have Cw_3 := Keep.mk (Kd.C_below Cw_2.out hb)
  clear Cw_2
  have Bw_2 := Keep.mk (Bw_1.out.below hb)
  clear Bw_1
  have B6_1 := Keep.mk (B6_0.out.trans (hb.mono B6_0.out.size))
  clear B6_0
  have Y_1 := Keep.mk ((hb.block _ (blk_lt Y_0.out)).trans Y_0.out)
  clear Y_0
  have O1_1 := Keep.mk (pw_own_below O1_0.out hb)
  clear O1_0
  have O2_1 := Keep.mk (pw_own_below O2_0.out hb)
  clear O2_0
  clear hb
  go_upto_region 9 with fail
  obtain ⟨r1, hr1⟩ : ∃ r1, eqS l0 f0 s0 l1 f1 s1 = r1 := ⟨_, rfl⟩
  obtain ⟨r3, hr3⟩ : ∃ r3, eqS lr fr sr l0 f0 s0 = r3 := ⟨_, rfl⟩
  have M1 := fun W (hb : Below w9.heap.size w9 W) => model_Same.calls KK Aa ca l0 f0 s0 Ab cb l1 f1 s1 r1 W (Kd.C_below Ca_11.out hb) HCAa.out (Kd.C_below Cb_9.out hb) HCAb.out ((msame l0 l1 HI.out.1 f0 s0 f1 s1 KK (by decide)).trans (by rw [hr1]))
  have M2 := fun W (hb : Below w9.heap.size w9 W) => model_Same.calls KK Aa ca l0 f0 s0 Aa ca l0 f0 s0 true W (Kd.C_below Ca_11.out hb) HCAa.out (Kd.C_below Ca_11.out hb) HCAa.out ((msame l0 l0 HI.out.1 f0 s0 f0 s0 KK (by decide)).trans (by rw [eqS_self]))
  have M3 := fun W (hb : Below w9.heap.size w9 W) => model_Same.calls KK Ax cx lr fr sr Aa ca l0 f0 s0 r3 W (Kd.C_below Cx_7.out hb) HCAx.out (Kd.C_below Ca_11.out hb) HCAa.out ((msame lr l0 HR.out.2 fr sr f0 s0 KK (by decide)).trans (by rw [hr3]))
  have R1 := fun W (hb : Below w9.heap.size w9 W) => undercroftref28_Same.calls KK A0 c0 l0 f0 s0 A1 c1 l1 f1 s1 r1 W (Kd.C_below CS_12.out hb) HC.out.1.1 (Kd.C_below CT_12.out hb) HC.out.2.1 ((rsame l0 l1 HI.out.1 f0 s0 f1 s1 KK (by decide)).trans (by rw [hr1]))
  have R3 := fun W (hb : Below w9.heap.size w9 W) => undercroftref28_Same.calls KK Aw cw lr fr sr A0 c0 l0 f0 s0 r3 W (Kd.C_below Cw_3.out hb) HCAw.out (Kd.C_below CS_12.out hb) HC.out.1.1 ((rsame lr l0 HR.out.2 fr sr f0 s0 KK (by decide)).trans (by rw [hr3]))
  have R4 := fun W (hb : Below w9.heap.size w9 W) => undercroftref28_Same.calls KK Ab cb l1 f1 s1 A1 c1 l1 f1 s1 true W (Kd.C_below Cb_9.out hb) HCAb.out (Kd.C_below CT_12.out hb) HC.out.2.1 ((rsame l1 l1 HI.out.2.1 f1 s1 f1 s1 KK (by decide)).trans (by rw [eqS_self]))
  have MM := Keep.mk (And.intro M1 (And.intro M2 (And.intro M3 (And.intro R1 (And.intro R3 R4)))))
  clear M1 M2 M3 R1 R3 R4 hr1 hr3
  have hS0 : BC w9 p2 Aa l0.length ca f0 s0 ∧ BC w9 p3 Ab l1.length cb f1 s1 ∧ BC w9 p0 A0 l0.length c0 f0 s0 ∧ BC w9 p1 A1 l1.length c1 f1 s1 ∧ BC w9 p4 Ax lr.length cx fr sr ∧ BC w9 p6 Aw lr.length cw fr sr ∧ S9 w9 w9 := ⟨Ba_10.out.bc, Bb_8.out.bc, BS_12.out.bc, BT_12.out.bc, Bx_6.out.bc, Bw_2.out.bc, Below.refl _ _⟩
  have HS0 := Keep.mk hS0
  clear hS0
  have keepS : ∀ {W W' : World}, (BC W p2 Aa l0.length ca f0 s0 ∧ BC W p3 Ab l1.length cb f1 s1 ∧ BC W p0 A0 l0.length c0 f0 s0 ∧ BC W p1 A1 l1.length c1 f1 s1 ∧ BC W p4 Ax lr.length cx fr sr ∧ BC W p6 Aw lr.length cw fr sr ∧ S9 w9 W) → Below W.heap.size W W' →
      (BC W' p2 Aa l0.length ca f0 s0 ∧ BC W' p3 Ab l1.length cb f1 s1 ∧ BC W' p0 A0 l0.length c0 f0 s0 ∧ BC W' p1 A1 l1.length c1 f1 s1 ∧ BC W' p4 Ax lr.length cx fr sr ∧ BC W' p6 Aw lr.length cw fr sr ∧ S9 w9 W') := fun h hb =>
    ⟨bcb h.1 hb, bcb h.2.1 hb, bcb h.2.2.1 hb, bcb h.2.2.2.1 hb, bcb h.2.2.2.2.1 hb, bcb h.2.2.2.2.2.1 hb, Below.trans h.2.2.2.2.2.2 (hb.mono (Below.size h.2.2.2.2.2.2))⟩
  have KS := Keep.mk @keepS
  clear keepS
  go_cut [65] (fun s65 wx => s65 = .bool false ∧ Keep (Below w9.heap.size w9 wx))
  case first =>
   go_region_held3 (fun w' => BC w' p2 Aa l0.length ca f0 s0 ∧ BC w' p3 Ab l1.length cb f1 s1 ∧ BC w' p0 A0 l0.length c0 f0 s0 ∧ BC w' p1 A1 l1.length c1 f1 s1 ∧ BC w' p4 Ax lr.length cx fr sr ∧ BC w' p6 Aw lr.length cw fr sr ∧ S9 w9 w')
    (first | exact HS0.out | exact KS.out HS0.out (Below.refl _ _).drew | exact KS.out (by assumption) (by assumption))
    (first | (go_at_call 13; (with_reducible refine (MM.out.1 _ (S9of (by assumption))).mono ?_); rintro e w' ⟨rfl, hb⟩) | (go_at_call 13; (with_reducible refine (MM.out.2.1 _ (S9of (by assumption))).mono ?_); rintro e w' ⟨rfl, hb⟩) | (go_at_call 13; (with_reducible refine (MM.out.2.2.1 _ (S9of (by assumption))).mono ?_); rintro e w' ⟨rfl, hb⟩) | (go_at_call 12; (with_reducible refine (MM.out.2.2.2.1 _ (S9of (by assumption))).mono ?_); rintro e w' ⟨rfl, hb⟩) | (go_at_call 12; (with_reducible refine (MM.out.2.2.2.2.1 _ (S9of (by assumption))).mono ?_); rintro e w' ⟨rfl, hb⟩) | (go_at_call 12; (with_reducible refine (MM.out.2.2.2.2.2 _ (S9of (by assumption))).mono ?_); rintro e w10 ⟨rfl, hb10⟩))
   all_goals (go_wp2_with fail; go_meet; exact ⟨rfl, ⟨S9of (by assumption)⟩⟩)
  case rest =>
  obtain ⟨rfl, hcut2⟩ := hcut
  have hb := hcut2.out
  clear hcut2
  have B_13 := Keep.mk (B_12.out.trans (hb.mono (bsz HP0 B_12.out)))
  clear B_12
  have BS_13 := Keep.mk (BS_12.out.below hb)
  clear BS_12
  have BT_13 := Keep.mk (BT_12.out.below hb)
  clear BT_12
  have CS_13 := Keep.mk (Kd.C_below CS_12.out hb)
  clear CS_12
  have CT_13 := Keep.mk (Kd.C_below CT_12.out hb)
  clear CT_12
  have VS_13 := Keep.mk (Kd.V_below VS_12.out hb)
  clear VS_12
  have Pa_12 := Keep.mk (Pa_11.out.below hb)
  clear Pa_11
  have Ca_12 := Keep.mk (Kd.C_below Ca_11.out hb)
  clear Ca_11
  have Ba_11 := Keep.mk (Ba_10.out.below hb)
  clear Ba_10
  have Cb_10 := Keep.mk (Kd.C_below Cb_9.out hb)
  clear Cb_9
  have Bb_9 := Keep.mk (Bb_8.out.below hb)
  clear Bb_8
  have Px_8 := Keep.mk (Px_7.out.below hb)
  clear Px_7
  have Cx_8 := Keep.mk (Kd.C_below Cx_7.out hb)
  clear Cx_7
  have Bx_7 := Keep.mk (Bx_6.out.below hb)
  clear Bx_6
  have Pz_6 := Keep.mk (Pz_5.out.below hb)
  clear Pz_5
  have Cz_6 := Keep.mk (Kd.C_below Cz_5.out hb)
  clear Cz_5
  have Bz_5 := Keep.mk (Bz_4.out.below hb)
  clear Bz_4
  have Cw_4 := Keep.mk (Kd.C_below Cw_3.out hb)
  clear Cw_3
  have Bw_3 := Keep.mk (Bw_2.out.below hb)
  clear Bw_2
  have B6_2 := Keep.mk (B6_1.out.trans (hb.mono B6_1.out.size))
  clear B6_1
  have Y_2 := Keep.mk ((hb.block _ (blk_lt Y_1.out)).trans Y_1.out)
  clear Y_1
  have O1_2 := Keep.mk (pw_own_below O1_1.out hb)
  clear O1_1
  have O2_2 := Keep.mk (pw_own_below O2_1.out hb)
  clear O2_1
  clear hb HS0 MM KS
  go_upto_region 11 with fail
  go_cut [73] (fun s_ wx => ∃ A3 c3, Keep (wx.heap[p6 + 1]? = some (.cells #[.slice A3 3 c3, .slice Au 2 cu, nil_, nil_] 30 (0, 0)) ∧ wx.ownsRow (p6 + 1) 24 3 (.slice A3 3 c3) 3 [.slice Ax lr.length cx, .int .i64 fr, .int .i64 sr, .slice Az lr.length cz, .int .i64 fr, .int .i64 sr, .slice Aa l0.length ca, .int .i64 f0, .int .i64 s0] ∧ wx.ownsRow (p6 + 1) 24 3 (.slice Au 2 cu) 2 [.slice Aw lr.length cw, .int .i64 fr, .int .i64 sr, .slice Aw lr.length cw, .int .i64 fr, .int .i64 sr] ∧ NeRow (.slice A3 3 c3) (.slice Au 2 cu) ∧ Below W6.heap.size W6 wx))
  case first =>
   have hyc : wc.cell? ⟨p6 + 1, 0, none⟩ = some (.slice Av 2 cv) := by rw [blk_cell Y_2.out]; rfl
   have hyd := ApE.hdr1 hyc
   have BD := Keep.mk (Box.below Ba_11.out (Below.refl _ _).drew)
   have HO := Keep.mk (pw_own_below O1_2.out (Below.refl _ _).drew)
   have HU := Keep.mk (pw_own_below O2_2.out (Below.refl _ _).drew)
   have HYd := Keep.mk (((Below.refl _ _).drew.block _ (blk_lt Y_2.out)).trans Y_2.out : (wc).drew.heap[p6 + 1]? = _)
   have H6d := Keep.mk (B6_2.out.trans ((Below.refl _ _).drew.mono B6_2.out.size) : Below W6.heap.size W6 (wc).drew)
   have HAL := Keep.mk (fun ob : Obj => (al (wc).drew ob))
   have HYA := Keep.mk (fun ob : Obj => (ApE.hc (al wc ob) hyc))
   have HYD := Keep.mk hyd
   clear hyc hyd
   refine wp_region_held_drew (S := fun w' => BC w' p2 Aa l0.length ca f0 s0) (by kernel_rfl) BD.out.bc (fun hHeld => ?_)
   refine wpAnyH_take (i := 0) (oi := { dst := some 66, op := Op.move (Operand.tmp 10), type := 26, pos := "law.go:189", after := #[], guard := none }) (v := ?vr110) rfl (by kernel_rfl) (by kernel_rfl) (by kernel_rfl) (fun _ _ _ h => h) (Or.inl ⟨by rfl, ?yr110⟩) (by assumption) ?rr110
   case yr110 => ((intro w hSw; (try dsimp only at hSw); go_simp) <;> with_reducible rfl)
   (try simp only [Act.put, List.setIfInBounds_toArray, List.set_cons_zero, List.set_cons_succ])
   refine wpAnyH_take (i := 1) (oi := { dst := some 67, op := Op.move (Operand.tmp 10), type := 26, pos := "law.go:189", after := #[], guard := none }) (v := ?vr111) rfl (by kernel_rfl) (by kernel_rfl) (by kernel_rfl) (fun _ _ _ h => h) (Or.inl ⟨by rfl, ?yr111⟩) (by assumption) ?rr111
   case yr111 => ((intro w hSw; (try dsimp only at hSw); go_simp) <;> with_reducible rfl)
   (try simp only [Act.put, List.setIfInBounds_toArray, List.set_cons_zero, List.set_cons_succ])
   refine wpAnyH_take (i := 2) (oi := { dst := some 68, op := Op.nilCheck (Operand.tmp 67), type := 0, pos := "law.go:189", after := #[{ on := 1, ground := Ground.data }], guard := none }) (v := ?vr112) rfl (by kernel_rfl) (by kernel_rfl) (by kernel_rfl) (fun _ _ _ h => h) (Or.inl ⟨by rfl, ?yr112⟩) (by assumption) ?rr112
   case yr112 => ((intro w hSw; (try dsimp only at hSw); go_simp) <;> with_reducible rfl)
   (try simp only [Act.put, List.setIfInBounds_toArray, List.set_cons_zero, List.set_cons_succ])
   refine wpAnyH_take (i := 3) (oi := { dst := some 69, op := Op.fieldAddr 30 (Operand.tmp 68) 0, type := 0, pos := "law.go:189", after := #[{ on := 2, ground := Ground.data }], guard := none }) (v := ?vr113) rfl (by kernel_rfl) (by kernel_rfl) (by kernel_rfl) (fun _ _ _ h => h) (Or.inl ⟨by rfl, ?yr113⟩) (by assumption) ?rr113
   case yr113 => ((intro w hSw; (try dsimp only at hSw); go_simp) <;> with_reducible rfl)
   (try simp only [Act.put, List.setIfInBounds_toArray, List.set_cons_zero, List.set_cons_succ])
   refine wpAnyH_take (i := 5) (oi := { dst := some 71, op := Op.load 24 (Operand.tmp 5), type := 24, pos := "law.go:189", after := #[], guard := none }) (v := ?vr115) rfl (by kernel_rfl) (by kernel_rfl) (by kernel_rfl) (fun _ _ _ h => h) (Or.inl ⟨by rfl, ?yr115⟩) (by assumption) ?rr115
   case yr115 => ((intro w hSw; (try dsimp only at hSw); go_simp) <;> with_reducible rfl)
   (try simp only [Act.put, List.setIfInBounds_toArray, List.set_cons_zero, List.set_cons_succ])
   refine wpAnyH_ready (rs := [4, 6]) (by kernel_rfl) (by simp) ?_
   refine AllReadyH.cons rfl (fun K hK => ?_) (AllReadyH.cons rfl (fun K hK => ?_) AllReadyH.nil)
   · have hyd := HYD.out
     go_simp
     refine hK.out _ _ BD.out.bc (fun hHeld2 => ?_)
     clear hK K hyd
     (try simp only [Act.put, List.setIfInBounds_toArray, List.set_cons_zero, List.set_cons_succ])
     refine wpAnyH_ready (rs := [6]) (by kernel_rfl) (by simp) ?_
     refine AllReadyH.cons rfl (fun K hK => ?_) AllReadyH.nil
     go_simp
     refine hK.out _ _ (bcb BD.out.bc (HAL.out _)) (fun hHeld3 => ?_)
     clear hK K
     (try simp only [Act.put, List.setIfInBounds_toArray, List.set_cons_zero, List.set_cons_succ])
     refine wpAnyH_ready (rs := [7]) (by kernel_rfl) (by simp) ?_
     refine AllReadyH.cons rfl (fun K hK => ?_) AllReadyH.nil
     refine step_append_cells (w0 := (wc).drew) (W := (wc).drew) (p6 + 1) (by rfl) (.tmp 70) (.tmp 72) 27 24 (.agg #[.slice none 0 0, .int .i64 0, .int .i64 0]) 3 40 rfl Try.underlying27 info24 rfl (by decide) (by decide) (.slice Av 2 cv) 2 [.slice Ax lr.length cx, .int .i64 fr, .int .i64 sr, .slice Az lr.length cz, .int .i64 fr, .int .i64 sr] [.slice Aa l0.length ca, .int .i64 f0, .int .i64 s0] rfl rfl rfl (by simp [Value.oneCell']) HO.out (Below.refl _ _) (by rw [← H6.out]; exact H6d.out.size) (by omega) ?_
     intro v3 w11 ho _ hg hat
     obtain ⟨hY1, hst⟩ := app_store (off := 0) H6d.out (by rw [H6.out]; exact Nat.le_refl _) (by rw [H6.out]; exact Nat.le_refl _) HYd.out HO.out HU.out NE.out ho hg hat
     have hb11 : Box w11 p2 Aa l0.length ca f0 s0 := box_grown BD.out hg (fun e => by have h1 := own_base HO.out _ e; have h2 := blk_lt Ba_8.out; have h3 := H6.out; omega)
     refine hK.out _ _ hb11.bc (fun hHeld4 => ?_)
     clear hK K
     obtain ⟨A3, c3, rfl⟩ := own_slice ho
     have HST := Keep.mk (And.intro hY1 (And.intro hst hb11))
     have hyc1 : w11.cell? ⟨p6 + 1, 0, none⟩ = some (.slice Av 2 cv) := by rw [blk_cell hY1]; rfl
     have hyf1 : w11.frozen? ⟨p6 + 1, 0, none⟩ = false := blk_frozen hY1 0
     clear ho hg hat hst hY1 hb11
     (try simp only [Act.put, List.setIfInBounds_toArray, List.set_cons_zero, List.set_cons_succ])
     refine wpAnyH_take (i := 8) (oi := { dst := some 74, op := Op.nilCheck (Operand.tmp 66), type := 0, pos := "law.go:189", after := #[{ on := 0, ground := Ground.data }, { on := 0, ground := Ground.phase }, { on := 1, ground := Ground.phase }, { on := 2, ground := Ground.phase }, { on := 3, ground := Ground.phase }, { on := 4, ground := Ground.phase }, { on := 5, ground := Ground.phase }, { on := 6, ground := Ground.phase }, { on := 7, ground := Ground.phase }], guard := none }) (v := ?vr11x8) rfl (by kernel_rfl) (by kernel_rfl) (by kernel_rfl) (fun _ _ _ h => h) (Or.inl ⟨by rfl, ?yr11x8⟩) (by assumption) ?rr11x8
     case yr11x8 => ((intro w hSw; (try dsimp only at hSw); go_simp) <;> with_reducible rfl)
     (try simp only [Act.put, List.setIfInBounds_toArray, List.set_cons_zero, List.set_cons_succ])
     refine wpAnyH_take (i := 9) (oi := { dst := some 75, op := Op.fieldAddr 30 (Operand.tmp 74) 0, type := 0, pos := "law.go:189", after := #[{ on := 8, ground := Ground.data }, { on := 0, ground := Ground.phase }, { on := 1, ground := Ground.phase }, { on := 2, ground := Ground.phase }, { on := 3, ground := Ground.phase }, { on := 4, ground := Ground.phase }, { on := 5, ground := Ground.phase }, { on := 6, ground := Ground.phase }, { on := 7, ground := Ground.phase }], guard := none }) (v := ?vr11x9) rfl (by kernel_rfl) (by kernel_rfl) (by kernel_rfl) (fun _ _ _ h => h) (Or.inl ⟨by rfl, ?yr11x9⟩) (by assumption) ?rr11x9
     case yr11x9 => ((intro w hSw; (try dsimp only at hSw); go_simp) <;> with_reducible rfl)
     (try simp only [Act.put, List.setIfInBounds_toArray, List.set_cons_zero, List.set_cons_succ])
     refine wpAnyH_ready (rs := [10]) (by kernel_rfl) (by simp) ?_
     refine AllReadyH.cons rfl (fun K hK => ?_) AllReadyH.nil
     go_simp
     refine hK.out _ _ (box_set HST.out.2.2 (fun e => by have h2 := blk_lt Ba_8.out; have h3 := H6.out; omega)).bc (fun hHeld5 => ?_)
     clear hK K
     (try simp only [Act.put, List.setIfInBounds_toArray, List.set_cons_zero, List.set_cons_succ])
     refine wpAnyH_done (by kernel_rfl) ?_ _
     clear hyc1 hyf1
     go_wp2_with fail
     go_meet
     exact ⟨A3, c3, ⟨HST.out.2.1⟩⟩
   · go_simp
     refine hK.out _ _ (bcb BD.out.bc (HAL.out _)) (fun hHeld3 => ?_)
     clear hK K
     (try simp only [Act.put, List.setIfInBounds_toArray, List.set_cons_zero, List.set_cons_succ])
     refine wpAnyH_ready (rs := [4]) (by kernel_rfl) (by simp) ?_
     refine AllReadyH.cons rfl (fun K hK => ?_) AllReadyH.nil
     have hyd := HYA.out (.cells #[.slice Aa l0.length ca, .int .i64 f0, .int .i64 s0] 24)
     go_simp
     refine hK.out _ _ (bcb BD.out.bc (HAL.out _)) (fun hHeld2 => ?_)
     clear hK K hyd
     (try simp only [Act.put, List.setIfInBounds_toArray, List.set_cons_zero, List.set_cons_succ])
     refine wpAnyH_ready (rs := [7]) (by kernel_rfl) (by simp) ?_
     refine AllReadyH.cons rfl (fun K hK => ?_) AllReadyH.nil
     refine step_append_cells (w0 := (wc).drew) (W := (wc).drew) (p6 + 1) (by rfl) (.tmp 70) (.tmp 72) 27 24 (.agg #[.slice none 0 0, .int .i64 0, .int .i64 0]) 3 40 rfl Try.underlying27 info24 rfl (by decide) (by decide) (.slice Av 2 cv) 2 [.slice Ax lr.length cx, .int .i64 fr, .int .i64 sr, .slice Az lr.length cz, .int .i64 fr, .int .i64 sr] [.slice Aa l0.length ca, .int .i64 f0, .int .i64 s0] rfl rfl rfl (by simp [Value.oneCell']) HO.out (Below.refl _ _) (by rw [← H6.out]; exact H6d.out.size) (by omega) ?_
     intro v3 w11 ho _ hg hat
     obtain ⟨hY1, hst⟩ := app_store (off := 0) H6d.out (by rw [H6.out]; exact Nat.le_refl _) (by rw [H6.out]; exact Nat.le_refl _) HYd.out HO.out HU.out NE.out ho hg hat
     have hb11 : Box w11 p2 Aa l0.length ca f0 s0 := box_grown BD.out hg (fun e => by have h1 := own_base HO.out _ e; have h2 := blk_lt Ba_8.out; have h3 := H6.out; omega)
     refine hK.out _ _ hb11.bc (fun hHeld4 => ?_)
     clear hK K
     obtain ⟨A3, c3, rfl⟩ := own_slice ho
     have HST := Keep.mk (And.intro hY1 (And.intro hst hb11))
     have hyc1 : w11.cell? ⟨p6 + 1, 0, none⟩ = some (.slice Av 2 cv) := by rw [blk_cell hY1]; rfl
     have hyf1 : w11.frozen? ⟨p6 + 1, 0, none⟩ = false := blk_frozen hY1 0
     clear ho hg hat hst hY1 hb11
     (try simp only [Act.put, List.setIfInBounds_toArray, List.set_cons_zero, List.set_cons_succ])
     refine wpAnyH_take (i := 8) (oi := { dst := some 74, op := Op.nilCheck (Operand.tmp 66), type := 0, pos := "law.go:189", after := #[{ on := 0, ground := Ground.data }, { on := 0, ground := Ground.phase }, { on := 1, ground := Ground.phase }, { on := 2, ground := Ground.phase }, { on := 3, ground := Ground.phase }, { on := 4, ground := Ground.phase }, { on := 5, ground := Ground.phase }, { on := 6, ground := Ground.phase }, { on := 7, ground := Ground.phase }], guard := none }) (v := ?vr11y8) rfl (by kernel_rfl) (by kernel_rfl) (by kernel_rfl) (fun _ _ _ h => h) (Or.inl ⟨by rfl, ?yr11y8⟩) (by assumption) ?rr11y8
     case yr11y8 => ((intro w hSw; (try dsimp only at hSw); go_simp) <;> with_reducible rfl)
     (try simp only [Act.put, List.setIfInBounds_toArray, List.set_cons_zero, List.set_cons_succ])
     refine wpAnyH_take (i := 9) (oi := { dst := some 75, op := Op.fieldAddr 30 (Operand.tmp 74) 0, type := 0, pos := "law.go:189", after := #[{ on := 8, ground := Ground.data }, { on := 0, ground := Ground.phase }, { on := 1, ground := Ground.phase }, { on := 2, ground := Ground.phase }, { on := 3, ground := Ground.phase }, { on := 4, ground := Ground.phase }, { on := 5, ground := Ground.phase }, { on := 6, ground := Ground.phase }, { on := 7, ground := Ground.phase }], guard := none }) (v := ?vr11y9) rfl (by kernel_rfl) (by kernel_rfl) (by kernel_rfl) (fun _ _ _ h => h) (Or.inl ⟨by rfl, ?yr11y9⟩) (by assumption) ?rr11y9
     case yr11y9 => ((intro w hSw; (try dsimp only at hSw); go_simp) <;> with_reducible rfl)
     (try simp only [Act.put, List.setIfInBounds_toArray, List.set_cons_zero, List.set_cons_succ])
     refine wpAnyH_ready (rs := [10]) (by kernel_rfl) (by simp) ?_
     refine AllReadyH.cons rfl (fun K hK => ?_) AllReadyH.nil
     go_simp
     refine hK.out _ _ (box_set HST.out.2.2 (fun e => by have h2 := blk_lt Ba_8.out; have h3 := H6.out; omega)).bc (fun hHeld5 => ?_)
     clear hK K
     (try simp only [Act.put, List.setIfInBounds_toArray, List.set_cons_zero, List.set_cons_succ])
     refine wpAnyH_done (by kernel_rfl) ?_ _
     clear hyc1 hyf1
     go_wp2_with fail
     go_meet
     exact ⟨A3, c3, ⟨HST.out.2.1⟩⟩
  case rest =>
  obtain ⟨Ao, co, HKC⟩ := hcut
  have hb := HKC.out.2.2.2.2
  have B_14 := Keep.mk (B_10.out.trans (hb.mono (bsz HP0 B_10.out)))
  clear B_13
  have BS_14 := Keep.mk (BS_10.out.below hb)
  clear BS_13
  have BT_14 := Keep.mk (BT_10.out.below hb)
  clear BT_13
  have CS_14 := Keep.mk (Kd.C_below CS_10.out hb)
  clear CS_13
  have CT_14 := Keep.mk (Kd.C_below CT_10.out hb)
  clear CT_13
  have VS_14 := Keep.mk (Kd.V_below VS_10.out hb)
  clear VS_13
  have Pa_13 := Keep.mk (Pa_9.out.below hb)
  clear Pa_12
  have Ca_13 := Keep.mk (Kd.C_below Ca_9.out hb)
  clear Ca_12
  have Ba_12 := Keep.mk (Ba_8.out.below hb)
  clear Ba_11
  have Cb_11 := Keep.mk (Kd.C_below Cb_7.out hb)
  clear Cb_10
  have Bb_10 := Keep.mk (Bb_6.out.below hb)
  clear Bb_9
  have Px_9 := Keep.mk (Px_5.out.below hb)
  clear Px_8
  have Cx_9 := Keep.mk (Kd.C_below Cx_5.out hb)
  clear Cx_8
  have Bx_8 := Keep.mk (Bx_4.out.below hb)
  clear Bx_7
  have Pz_7 := Keep.mk (Pz_3.out.below hb)
  clear Pz_6
  have Cz_7 := Keep.mk (Kd.C_below Cz_3.out hb)
  clear Cz_6
  have Bz_6 := Keep.mk (Bz_2.out.below hb)
  clear Bz_5
  have Cw_5 := Keep.mk (Kd.C_below Cw_1.out hb)
  clear Cw_4
  have Bw_4 := Keep.mk (Bw_0.out.below hb)
  clear Bw_3
  have B6_3 := Keep.mk (hb)
  clear B6_2
  have Y_3 := Keep.mk (HKC.out.1)
  clear Y_2
  have O1_3 := Keep.mk (HKC.out.2.1)
  clear O1_2
  have O2_3 := Keep.mk (HKC.out.2.2.1)
  clear O2_2
  have NE1 := Keep.mk (HKC.out.2.2.2.1)
  clear NE hb HKC
  have NE := NE1
  clear NE1
  go_upto_region 12 with fail
  go_cut [83] (fun s_ wx => ∃ A3 c3, Keep (wx.heap[p6 + 1]? = some (.cells #[.slice Ao 3 co, .slice A3 3 c3, nil_, nil_] 30 (0, 0)) ∧ wx.ownsRow (p6 + 1) 24 3 (.slice A3 3 c3) 3 [.slice Aw lr.length cw, .int .i64 fr, .int .i64 sr, .slice Aw lr.length cw, .int .i64 fr, .int .i64 sr, .slice A0 l0.length c0, .int .i64 f0, .int .i64 s0] ∧ wx.ownsRow (p6 + 1) 24 3 (.slice Ao 3 co) 3 [.slice Ax lr.length cx, .int .i64 fr, .int .i64 sr, .slice Az lr.length cz, .int .i64 fr, .int .i64 sr, .slice Aa l0.length ca, .int .i64 f0, .int .i64 s0] ∧ NeRow (.slice A3 3 c3) (.slice Ao 3 co) ∧ Below W6.heap.size W6 wx))
  case first =>
   have hyc : wc.cell? ⟨p6 + 1, 1, none⟩ = some (.slice Au 2 cu) := by rw [blk_cell Y_3.out]; rfl
   have hyd := ApE.hdr1 hyc
   have BD := Keep.mk (Box.below BS_14.out (Below.refl _ _).drew)
   have HO := Keep.mk (pw_own_below O2_3.out (Below.refl _ _).drew)
   have HU := Keep.mk (pw_own_below O1_3.out (Below.refl _ _).drew)
   have HYd := Keep.mk (((Below.refl _ _).drew.block _ (blk_lt Y_3.out)).trans Y_3.out : (wc).drew.heap[p6 + 1]? = _)
   have H6d := Keep.mk (B6_3.out.trans ((Below.refl _ _).drew.mono B6_3.out.size) : Below W6.heap.size W6 (wc).drew)
   have HAL := Keep.mk (fun ob : Obj => (al (wc).drew ob))
   have HYA := Keep.mk (fun ob : Obj => (ApE.hc (al wc ob) hyc))
   have HYD := Keep.mk hyd
   clear hyc hyd
   refine wp_region_held_drew (S := fun w' => BC w' p0 A0 l0.length c0 f0 s0) (by kernel_rfl) BD.out.bc (fun hHeld => ?_)
   refine wpAnyH_take (i := 0) (oi := { dst := some 76, op := Op.move (Operand.tmp 10), type := 26, pos := "law.go:190", after := #[], guard := none }) (v := ?vr120) rfl (by kernel_rfl) (by kernel_rfl) (by kernel_rfl) (fun _ _ _ h => h) (Or.inl ⟨by rfl, ?yr120⟩) (by assumption) ?rr120
   case yr120 => ((intro w hSw; (try dsimp only at hSw); go_simp) <;> with_reducible rfl)
   (try simp only [Act.put, List.setIfInBounds_toArray, List.set_cons_zero, List.set_cons_succ])
   refine wpAnyH_take (i := 1) (oi := { dst := some 77, op := Op.move (Operand.tmp 10), type := 26, pos := "law.go:190", after := #[], guard := none }) (v := ?vr121) rfl (by kernel_rfl) (by kernel_rfl) (by kernel_rfl) (fun _ _ _ h => h) (Or.inl ⟨by rfl, ?yr121⟩) (by assumption) ?rr121
   case yr121 => ((intro w hSw; (try dsimp only at hSw); go_simp) <;> with_reducible rfl)
   (try simp only [Act.put, List.setIfInBounds_toArray, List.set_cons_zero, List.set_cons_succ])
   refine wpAnyH_take (i := 2) (oi := { dst := some 78, op := Op.nilCheck (Operand.tmp 77), type := 0, pos := "law.go:190", after := #[{ on := 1, ground := Ground.data }], guard := none }) (v := ?vr122) rfl (by kernel_rfl) (by kernel_rfl) (by kernel_rfl) (fun _ _ _ h => h) (Or.inl ⟨by rfl, ?yr122⟩) (by assumption) ?rr122
   case yr122 => ((intro w hSw; (try dsimp only at hSw); go_simp) <;> with_reducible rfl)
   (try simp only [Act.put, List.setIfInBounds_toArray, List.set_cons_zero, List.set_cons_succ])
   refine wpAnyH_take (i := 3) (oi := { dst := some 79, op := Op.fieldAddr 30 (Operand.tmp 78) 1, type := 0, pos := "law.go:190", after := #[{ on := 2, ground := Ground.data }], guard := none }) (v := ?vr123) rfl (by kernel_rfl) (by kernel_rfl) (by kernel_rfl) (fun _ _ _ h => h) (Or.inl ⟨by rfl, ?yr123⟩) (by assumption) ?rr123
   case yr123 => ((intro w hSw; (try dsimp only at hSw); go_simp) <;> with_reducible rfl)
   (try simp only [Act.put, List.setIfInBounds_toArray, List.set_cons_zero, List.set_cons_succ])
   refine wpAnyH_take (i := 5) (oi := { dst := some 81, op := Op.load 24 (Operand.tmp 2), type := 24, pos := "law.go:190", after := #[], guard := none }) (v := ?vr125) rfl (by kernel_rfl) (by kernel_rfl) (by kernel_rfl) (fun _ _ _ h => h) (Or.inl ⟨by rfl, ?yr125⟩) (by assumption) ?rr125
   case yr125 => ((intro w hSw; (try dsimp only at hSw); go_simp) <;> with_reducible rfl)
   (try simp only [Act.put, List.setIfInBounds_toArray, List.set_cons_zero, List.set_cons_succ])
   refine wpAnyH_ready (rs := [4, 6]) (by kernel_rfl) (by simp) ?_
   refine AllReadyH.cons rfl (fun K hK => ?_) (AllReadyH.cons rfl (fun K hK => ?_) AllReadyH.nil)
   · have hyd := HYD.out
     go_simp
     refine hK.out _ _ BD.out.bc (fun hHeld2 => ?_)
     clear hK K hyd
     (try simp only [Act.put, List.setIfInBounds_toArray, List.set_cons_zero, List.set_cons_succ])
     refine wpAnyH_ready (rs := [6]) (by kernel_rfl) (by simp) ?_
     refine AllReadyH.cons rfl (fun K hK => ?_) AllReadyH.nil
     go_simp
     refine hK.out _ _ (bcb BD.out.bc (HAL.out _)) (fun hHeld3 => ?_)
     clear hK K
     (try simp only [Act.put, List.setIfInBounds_toArray, List.set_cons_zero, List.set_cons_succ])
     refine wpAnyH_ready (rs := [7]) (by kernel_rfl) (by simp) ?_
     refine AllReadyH.cons rfl (fun K hK => ?_) AllReadyH.nil
     refine step_append_cells (w0 := (wc).drew) (W := (wc).drew) (p6 + 1) (by rfl) (.tmp 80) (.tmp 82) 27 24 (.agg #[.slice none 0 0, .int .i64 0, .int .i64 0]) 3 40 rfl Try.underlying27 info24 rfl (by decide) (by decide) (.slice Au 2 cu) 2 [.slice Aw lr.length cw, .int .i64 fr, .int .i64 sr, .slice Aw lr.length cw, .int .i64 fr, .int .i64 sr] [.slice A0 l0.length c0, .int .i64 f0, .int .i64 s0] rfl rfl rfl (by simp [Value.oneCell']) HO.out (Below.refl _ _) (by rw [← H6.out]; exact H6d.out.size) (by omega) ?_
     intro v3 w11 ho _ hg hat
     obtain ⟨hY1, hst⟩ := app_store (off := 1) H6d.out (by rw [H6.out]; exact Nat.le_refl _) (by rw [H6.out]; exact Nat.le_refl _) HYd.out HO.out HU.out (ne_symm NE.out) ho hg hat
     have hb11 : Box w11 p0 A0 l0.length c0 f0 s0 := box_grown BD.out hg (fun e => by have h1 := own_base HO.out _ e; have h2 := blk_lt BS_10.out; have h3 := H6.out; omega)
     refine hK.out _ _ hb11.bc (fun hHeld4 => ?_)
     clear hK K
     obtain ⟨A3, c3, rfl⟩ := own_slice ho
     have HST := Keep.mk (And.intro hY1 (And.intro hst hb11))
     have hyc1 : w11.cell? ⟨p6 + 1, 1, none⟩ = some (.slice Au 2 cu) := by rw [blk_cell hY1]; rfl
     have hyf1 : w11.frozen? ⟨p6 + 1, 1, none⟩ = false := blk_frozen hY1 1
     clear ho hg hat hst hY1 hb11
     (try simp only [Act.put, List.setIfInBounds_toArray, List.set_cons_zero, List.set_cons_succ])
     refine wpAnyH_take (i := 8) (oi := { dst := some 84, op := Op.nilCheck (Operand.tmp 76), type := 0, pos := "law.go:190", after := #[{ on := 0, ground := Ground.data }, { on := 0, ground := Ground.phase }, { on := 1, ground := Ground.phase }, { on := 2, ground := Ground.phase }, { on := 3, ground := Ground.phase }, { on := 4, ground := Ground.phase }, { on := 5, ground := Ground.phase }, { on := 6, ground := Ground.phase }, { on := 7, ground := Ground.phase }], guard := none }) (v := ?vr12x8) rfl (by kernel_rfl) (by kernel_rfl) (by kernel_rfl) (fun _ _ _ h => h) (Or.inl ⟨by rfl, ?yr12x8⟩) (by assumption) ?rr12x8
     case yr12x8 => ((intro w hSw; (try dsimp only at hSw); go_simp) <;> with_reducible rfl)
     (try simp only [Act.put, List.setIfInBounds_toArray, List.set_cons_zero, List.set_cons_succ])
     refine wpAnyH_take (i := 9) (oi := { dst := some 85, op := Op.fieldAddr 30 (Operand.tmp 84) 1, type := 0, pos := "law.go:190", after := #[{ on := 8, ground := Ground.data }, { on := 0, ground := Ground.phase }, { on := 1, ground := Ground.phase }, { on := 2, ground := Ground.phase }, { on := 3, ground := Ground.phase }, { on := 4, ground := Ground.phase }, { on := 5, ground := Ground.phase }, { on := 6, ground := Ground.phase }, { on := 7, ground := Ground.phase }], guard := none }) (v := ?vr12x9) rfl (by kernel_rfl) (by kernel_rfl) (by kernel_rfl) (fun _ _ _ h => h) (Or.inl ⟨by rfl, ?yr12x9⟩) (by assumption) ?rr12x9
     case yr12x9 => ((intro w hSw; (try dsimp only at hSw); go_simp) <;> with_reducible rfl)
     (try simp only [Act.put, List.setIfInBounds_toArray, List.set_cons_zero, List.set_cons_succ])
     refine wpAnyH_ready (rs := [10]) (by kernel_rfl) (by simp) ?_
     refine AllReadyH.cons rfl (fun K hK => ?_) AllReadyH.nil
     go_simp
     refine hK.out _ _ (box_set HST.out.2.2 (fun e => by have h2 := blk_lt BS_10.out; have h3 := H6.out; omega)).bc (fun hHeld5 => ?_)
     clear hK K
     (try simp only [Act.put, List.setIfInBounds_toArray, List.set_cons_zero, List.set_cons_succ])
     refine wpAnyH_done (by kernel_rfl) ?_ _
     clear hyc1 hyf1
     go_wp2_with fail
     go_meet
     exact ⟨A3, c3, ⟨HST.out.2.1⟩⟩
   · go_simp
     refine hK.out _ _ (bcb BD.out.bc (HAL.out _)) (fun hHeld3 => ?_)
     clear hK K
     (try simp only [Act.put, List.setIfInBounds_toArray, List.set_cons_zero, List.set_cons_succ])
     refine wpAnyH_ready (rs := [4]) (by kernel_rfl) (by simp) ?_
     refine AllReadyH.cons rfl (fun K hK => ?_) AllReadyH.nil
     have hyd := HYA.out (.cells #[.slice A0 l0.length c0, .int .i64 f0, .int .i64 s0] 24)
     go_simp
     refine hK.out _ _ (bcb BD.out.bc (HAL.out _)) (fun hHeld2 => ?_)
     clear hK K hyd
     (try simp only [Act.put, List.setIfInBounds_toArray, List.set_cons_zero, List.set_cons_succ])
     refine wpAnyH_ready (rs := [7]) (by kernel_rfl) (by simp) ?_
     refine AllReadyH.cons rfl (fun K hK => ?_) AllReadyH.nil
     refine step_append_cells (w0 := (wc).drew) (W := (wc).drew) (p6 + 1) (by rfl) (.tmp 80) (.tmp 82) 27 24 (.agg #[.slice none 0 0, .int .i64 0, .int .i64 0]) 3 40 rfl Try.underlying27 info24 rfl (by decide) (by decide) (.slice Au 2 cu) 2 [.slice Aw lr.length cw, .int .i64 fr, .int .i64 sr, .slice Aw lr.length cw, .int .i64 fr, .int .i64 sr] [.slice A0 l0.length c0, .int .i64 f0, .int .i64 s0] rfl rfl rfl (by simp [Value.oneCell']) HO.out (Below.refl _ _) (by rw [← H6.out]; exact H6d.out.size) (by omega) ?_
     intro v3 w11 ho _ hg hat
     obtain ⟨hY1, hst⟩ := app_store (off := 1) H6d.out (by rw [H6.out]; exact Nat.le_refl _) (by rw [H6.out]; exact Nat.le_refl _) HYd.out HO.out HU.out (ne_symm NE.out) ho hg hat
     have hb11 : Box w11 p0 A0 l0.length c0 f0 s0 := box_grown BD.out hg (fun e => by have h1 := own_base HO.out _ e; have h2 := blk_lt BS_10.out; have h3 := H6.out; omega)
     refine hK.out _ _ hb11.bc (fun hHeld4 => ?_)
     clear hK K
     obtain ⟨A3, c3, rfl⟩ := own_slice ho
     have HST := Keep.mk (And.intro hY1 (And.intro hst hb11))
     have hyc1 : w11.cell? ⟨p6 + 1, 1, none⟩ = some (.slice Au 2 cu) := by rw [blk_cell hY1]; rfl
     have hyf1 : w11.frozen? ⟨p6 + 1, 1, none⟩ = false := blk_frozen hY1 1
     clear ho hg hat hst hY1 hb11
     (try simp only [Act.put, List.setIfInBounds_toArray, List.set_cons_zero, List.set_cons_succ])
     refine wpAnyH_take (i := 8) (oi := { dst := some 84, op := Op.nilCheck (Operand.tmp 76), type := 0, pos := "law.go:190", after := #[{ on := 0, ground := Ground.data }, { on := 0, ground := Ground.phase }, { on := 1, ground := Ground.phase }, { on := 2, ground := Ground.phase }, { on := 3, ground := Ground.phase }, { on := 4, ground := Ground.phase }, { on := 5, ground := Ground.phase }, { on := 6, ground := Ground.phase }, { on := 7, ground := Ground.phase }], guard := none }) (v := ?vr12y8) rfl (by kernel_rfl) (by kernel_rfl) (by kernel_rfl) (fun _ _ _ h => h) (Or.inl ⟨by rfl, ?yr12y8⟩) (by assumption) ?rr12y8
     case yr12y8 => ((intro w hSw; (try dsimp only at hSw); go_simp) <;> with_reducible rfl)
     (try simp only [Act.put, List.setIfInBounds_toArray, List.set_cons_zero, List.set_cons_succ])
     refine wpAnyH_take (i := 9) (oi := { dst := some 85, op := Op.fieldAddr 30 (Operand.tmp 84) 1, type := 0, pos := "law.go:190", after := #[{ on := 8, ground := Ground.data }, { on := 0, ground := Ground.phase }, { on := 1, ground := Ground.phase }, { on := 2, ground := Ground.phase }, { on := 3, ground := Ground.phase }, { on := 4, ground := Ground.phase }, { on := 5, ground := Ground.phase }, { on := 6, ground := Ground.phase }, { on := 7, ground := Ground.phase }], guard := none }) (v := ?vr12y9) rfl (by kernel_rfl) (by kernel_rfl) (by kernel_rfl) (fun _ _ _ h => h) (Or.inl ⟨by rfl, ?yr12y9⟩) (by assumption) ?rr12y9
     case yr12y9 => ((intro w hSw; (try dsimp only at hSw); go_simp) <;> with_reducible rfl)
     (try simp only [Act.put, List.setIfInBounds_toArray, List.set_cons_zero, List.set_cons_succ])
     refine wpAnyH_ready (rs := [10]) (by kernel_rfl) (by simp) ?_
     refine AllReadyH.cons rfl (fun K hK => ?_) AllReadyH.nil
     go_simp
     refine hK.out _ _ (box_set HST.out.2.2 (fun e => by have h2 := blk_lt BS_10.out; have h3 := H6.out; omega)).bc (fun hHeld5 => ?_)
     clear hK K
     (try simp only [Act.put, List.setIfInBounds_toArray, List.set_cons_zero, List.set_cons_succ])
     refine wpAnyH_done (by kernel_rfl) ?_ _
     clear hyc1 hyf1
     go_wp2_with fail
     go_meet
     exact ⟨A3, c3, ⟨HST.out.2.1⟩⟩
  case rest =>
  obtain ⟨Aq, cq, HKC⟩ := hcut
  have hb := HKC.out.2.2.2.2
  have B_15 := Keep.mk (B_10.out.trans (hb.mono (bsz HP0 B_10.out)))
  clear B_14
  have BS_15 := Keep.mk (BS_10.out.below hb)
  clear BS_14
  have BT_15 := Keep.mk (BT_10.out.below hb)
  clear BT_14
  have CS_15 := Keep.mk (Kd.C_below CS_10.out hb)
  clear CS_14
  have CT_15 := Keep.mk (Kd.C_below CT_10.out hb)
  clear CT_14
  have VS_15 := Keep.mk (Kd.V_below VS_10.out hb)
  clear VS_14
  have Pa_14 := Keep.mk (Pa_9.out.below hb)
  clear Pa_13
  have Ca_14 := Keep.mk (Kd.C_below Ca_9.out hb)
  clear Ca_13
  have Ba_13 := Keep.mk (Ba_8.out.below hb)
  clear Ba_12
  have Cb_12 := Keep.mk (Kd.C_below Cb_7.out hb)
  clear Cb_11
  have Bb_11 := Keep.mk (Bb_6.out.below hb)
  clear Bb_10
  have Px_10 := Keep.mk (Px_5.out.below hb)
  clear Px_9
  have Cx_10 := Keep.mk (Kd.C_below Cx_5.out hb)
  clear Cx_9
  have Bx_9 := Keep.mk (Bx_4.out.below hb)
  clear Bx_8
  have Pz_8 := Keep.mk (Pz_3.out.below hb)
  clear Pz_7
  have Cz_8 := Keep.mk (Kd.C_below Cz_3.out hb)
  clear Cz_7
  have Bz_7 := Keep.mk (Bz_2.out.below hb)
  clear Bz_6
  have Cw_6 := Keep.mk (Kd.C_below Cw_1.out hb)
  clear Cw_5
  have Bw_5 := Keep.mk (Bw_0.out.below hb)
  clear Bw_4
  have B6_4 := Keep.mk (hb)
  clear B6_3
  have Y_4 := Keep.mk (HKC.out.1)
  clear Y_3
  have O1_4 := Keep.mk (HKC.out.2.2.1)
  clear O1_3
  have O2_4 := Keep.mk (HKC.out.2.1)
  clear O2_3
  have NE1 := Keep.mk (ne_symm HKC.out.2.2.2.1)
  clear NE hb HKC
  have NE := NE1
  clear NE1
  go_wp2_with fail
  refine (finish wc (p6 + 1) Px_10.out Pz_8.out Pa_14.out H24.out (bsz HP0 B_15.out) Y_4.out O1_4.out O2_4.out (by have h1 := blk_lt BS_10.out; have h2 := H6.out; omega) HI.out.1 HR.out.2 (by have h1 := HI.out.2.2; have h2 := HLR.out; omega) Cx_10.out HCAx.out Cz_8.out HCAz.out Ca_14.out HCAa.out Cw_6.out HCAw.out CS_15.out HC.out.1.1).mono ?_
  rintro e w13 ⟨rfl, hb13⟩
  go_wp2_with fail
  go_ret
  refine ⟨rfl, ?_⟩
  rw [HP0.out]
  exact B_15.out.trans hb13
end Go.Proofs.Ytochgkepaleblaa.WalkRec
