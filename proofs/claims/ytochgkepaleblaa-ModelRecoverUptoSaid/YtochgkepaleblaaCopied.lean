/- model.copied: an item with lists of its own. -/
import Derived.Test.YtochgkepaleblaaRecx0
import Derived.Deep.DeepMust
set_option linter.unusedVariables false
set_option linter.unusedSimpArgs false
namespace Go.Proofs.Ytochgkepaleblaa.Rec
open Go.RowKit Go.Proofs.Ytochgkepaleblaa.Held Go.Proofs.YtochgkepaleblaaW.PrintWords Go.Proofs.YtochgkepaleblaaW.PrintLast Go.Proofs.YtochgkepaleblaaW.PrintMore

def model_copied.f (a0 a1 a2 a3 a4 : Int) (l5 : List B63) (l6 : List S66) : Option (Int × Int × Int × Int × Int × List B63 × List S66) :=
  if l5.length * 1032 ≤ 140737488355328 ∧ l6.length * 24 ≤ 140737488355328 then some (a0, a1, a2, a3, a4, l5, l6) else none
theorem k66_KM (w0 w : World) (base : Nat) (ok : Nat → Prop) : ∀ (x : S66) (cs : List Value), k66.K w0 x cs → k66.M w base ok x cs := fun x cs h => by
  obtain rfl := k66_open h
  exact k66_mkM _ _ _ x
theorem none_own (k : Nat) : some k ≠ (Value.slice none 0 0).ownBlock := by
  show some k ≠ none
  exact Option.some_ne_none k
theorem append66 {w W : World} {ops : Array Oper} {rest : List Oper} {o : Oper} {a : Act} {Q : Exit → Act → World → Prop} (hgd : o.guard = none) (x : Operand) (ho : o.op = .call { callee := .builtin .append, args := #[.const (.slice none 0 0), x], argTypes := #[52, 52] })
    {A : Option Addr} {c : Nat} {l : List S66} (hx : a.eval x = .slice A l.length c) (HR : Kd.C k66 W A l.length l) (HB : Below w.heap.size w W) (hl : l.length * 24 ≤ 140737488355328)
    (h : ∀ v1 w1, Kd.R k66 66 w1 w.heap.size (fun _ => True) v1 l → Below w.heap.size w w1 → W.grownBy w1 none → wpList Try.prog ops Q rest (a.put o.dst v1) w1) : wpList Try.prog ops Q (o :: rest) a W := by
  refine Kd.R_append_rows k66 (w0 := w) w.heap.size hgd (.const (.slice none 0 0)) x 52 66 (.agg #[(.int .u16 0), (.string ⟨#[]⟩)]) 24 ho Try.underlying52 info66 rfl (by decide) (by decide) (.slice none 0 0) ([] : List S66) l A l.length c (fun _ => True) (fun _ => False) rfl hx (Kd.R_nil _ _ _ _ (fun _ => True)) HR (k66_KM _ _ _ _) (fun _ h => h.elim) (fun _ _ => trivial) HB HB.size (by rw [List.length_nil, Nat.zero_add]; exact hl) ?_
  intro v1 w1 ho hb hg hat
  rw [List.nil_append] at ho
  exact h v1 w1 ho hb hg
theorem R_store {α : Type} {d : Kd α} {e : Nat} {w : World} {N : Nat} {v : Value} {xs : List α} {g t : Nat} {cells : Array Value} (h : d.R e w N (fun _ => True) v xs) (hb : w.heap[g]? = some (.cells cells t (0, 0))) (ht : ∀ q, q ∈ e :: d.E → q ≠ t) (j : Nat) (u : Value) : d.R e (w.setCell ⟨g, j, none⟩ u) N (fun _ => True) v xs :=
  Kd.R_mono (Kd.R_far (p := ⟨g, j, none⟩) (Kd.R_types h hb ht) (fun _ hk => hk.2) u) (fun _ _ => trivial)
set_option maxHeartbeats 4000000 in
set_option maxRecDepth 100000 in
theorem model_copied.calls (a0 a1 a2 a3 a4 : Int) (A5 : Option Addr) (c5 : Nat) (l5 : List B63) (A6 : Option Addr) (c6 : Nat) (l6 : List S66) (r1 r2 r3 r4 r5 : Int) (r6 : List B63) (r7 : List S66) (w : World)
    (hr5 : Kd.C kB63 w A5 l5.length l5) (hc5 : l5.length ≤ c5) (hr6 : Kd.C k66 w A6 l6.length l6) (hc6 : l6.length ≤ c6) (h : model_copied.f a0 a1 a2 a3 a4 l5 l6 = some (r1, r2, r3, r4, r5, r6, r7)) :
    Calls Try.prog 31 #[.agg #[.int .i64 a0, .int .u16 a1, .int .i64 a2, .int .i64 a3, .int .i64 a4, .slice A5 l5.length c5, .slice A6 l6.length c6]] w fun e w' => ∃ v5 v6 : Value, e = .returned (.agg #[.int .i64 r1, .int .u16 r2, .int .i64 r3, .int .i64 r4, .int .i64 r5, v5, v6]) ∧ Kd.R kB63 63 w' w.heap.size (fun _ => True) v5 r6 ∧ Kd.R k66 66 w' w.heap.size (fun _ => True) v6 r7 ∧ Below w.heap.size w w' := by
  have hr : (l5.length * 1032 ≤ 140737488355328 ∧ l6.length * 24 ≤ 140737488355328) ∧ a0 = r1 ∧ a1 = r2 ∧ a2 = r3 ∧ a3 = r4 ∧ a4 = r5 ∧ l5 = r6 ∧ l6 = r7 := by
    unfold model_copied.f at h
    split at h
    · rename_i hs
      have h' := Option.some.inj h
      simp only [Prod.mk.injEq] at h'
      exact ⟨hs, h'⟩
    · cases h
  obtain ⟨hs, rfl, rfl, rfl, rfl, rfl, rfl, rfl⟩ := hr
  clear h
  have HS := Keep.mk hs
  have HR5 := Keep.mk hr5
  have HR6 := Keep.mk hr6
  clear hs hr5 hr6
  obtain ⟨z63, inf63, zsz63⟩ := info63x
  have Hz := Keep.mk (And.intro inf63 zsz63)
  clear inf63 zsz63
  have hu54 := Try.underlying54
  go_enter Try.func31, Try.ntmps31
  go_wp2_with (first | ((with_reducible refine gate_dst (N := 1) rfl ?_); refine box_event ?hg (N := 1) ?hd (cs := #[.int .i64 a0, .int .u16 a1, .int .i64 a2, .int .i64 a3, .int .i64 a4, .slice A5 l5.length c5, .slice A6 l6.length c6]) (t := 54) ?hr ?_; (case hd => rfl); (case hg => rfl); (case hr => first | (go_simp; done) | (go_simp; rfl)); intro gb1 hg1 w2 hbox1 hb1; have B1 := Keep.mk hbox1; have G1 := Keep.mk (Nat.le_of_eq hg1.symm); have HB := Keep.mk hb1; clear hbox1 hg1 hb1) | ((with_reducible refine gate_dst (N := 2) rfl ?_); refine box_event ?hg (N := 2) ?hd (cs := #[.int .i64 0, .int .u16 0, .int .i64 0, .int .i64 0, .int .i64 0, .slice none 0 0, .slice none 0 0]) (t := 54) ?hr ?_; (case hd => rfl); (case hg => rfl); (case hr => first | (go_simp; done) | (go_simp; rfl)); intro gb2 hg2 w3 hbox2 hb2; have B2 := Keep.mk hbox2; have G2 := Keep.mk (Nat.le_trans HB.out.size (Nat.le_of_eq hg2.symm)); have hne : gb1 ≠ gb2 := (by rw [hg2]; exact Nat.ne_of_lt (blk_lt B1.out)); have hne2 : gb2 ≠ gb1 := hne.symm; have B1' := Keep.mk (blk_below B1.out hb2); have HB2 := Keep.mk (HB.out.trans (hb2.mono HB.out.size)); clear B1 HB hbox2 hb2 hg2; have q5f := blk_frozen B1'.out 5; have q5 : w3.cell? ⟨gb1, 5, none⟩ = some (.slice A5 l5.length c5) := (blk_cell B1'.out 5).trans rfl) | ((with_reducible refine gate_builtin (b := .append) (xs := #[.const (.slice none 0 0), .tmp 4]) rfl ?_); at_builtin; refine Kd.R_append_rows kB63 (w0 := w) w.heap.size rfl (.const (.slice none 0 0)) (.tmp 4) 51 63 z63 1032 rfl Try.underlying51 Hz.out.1 Hz.out.2 kB63_pos (Nat.succ_pos 1031) (.slice none 0 0) ([] : List B63) l5 _ _ _ (fun _ => True) (fun _ => False) rfl rfl (Kd.R_nil _ _ _ _ (fun _ => True)) ?aR (fun _ _ h => h) (fun _ h => h.elim) (fun _ _ => trivial) HB2.out HB2.out.size ?aL ?_; (case aR => exact Kd.C_below HR5.out HB2.out); (case aL => have := HS.out.1; simp only [List.length_nil, Nat.zero_add]; exact this); intro v5 w4 ho hb hg hat; rw [List.nil_append] at ho; obtain ⟨Av5, cv5, ev5⟩ := Kd.R_slice ho; subst ev5; have O5 := Keep.mk ho; have HB4 := Keep.mk hb; have HBs := Keep.mk (show Below w.heap.size w (w4.setCell ⟨gb1, 5, none⟩ (.slice Av5 l5.length cv5)) from below_set HB4.out G1.out); have B14 := Keep.mk ((hg.block gb1 (blk_lt B1'.out) (none_own gb1)).trans B1'.out); have B24 := Keep.mk ((hg.block gb2 (blk_lt B2.out) (none_own gb2)).trans B2.out); clear ho hb hg hat q5 q5f B1' B2 HB2; have q5f := blk_frozen B14.out 5; have q5 : w4.cell? ⟨gb1, 5, none⟩ = some (.slice A5 l5.length c5) := (blk_cell B14.out 5).trans rfl; have q6 : w4.cell? ⟨gb1, 6, none⟩ = some (.slice A6 l6.length c6) := (blk_cell B14.out 6).trans rfl) | ((with_reducible refine gate_builtin (b := .append) (xs := #[.const (.slice none 0 0), .tmp 8]) rfl ?_); at_builtin; (refine append66 (w := w) rfl (.tmp 8) rfl rfl (Kd.C_below HR6.out HBs.out) HBs.out HS.out.2 ?_); (intro v6 w5 ho hb hg; obtain ⟨Av6, cv6, ev6⟩ := Kd.R_slice ho; subst ev6); (have O5s := Keep.mk (Kd.R_grown (R_store O5.out B14.out (by decide) 5 (.slice Av5 l5.length cv5)) hg (fun k _ => Option.some_ne_none k)); have O6 := Keep.mk ho; have HB5 := Keep.mk hb); (have C1 := blk_put (cs := #[.int .i64 a0, .int .u16 a1, .int .i64 a2, .int .i64 a3, .int .i64 a4, .slice A5 l5.length c5, .slice A6 l6.length c6]) B14.out 5 (.slice Av5 l5.length cv5) rfl); (have C2 := blk_far (p := ⟨gb1, 5, none⟩) B24.out hne2 (.slice Av5 l5.length cv5)); (have B15 := Keep.mk ((hg.block gb1 (blk_lt C1) (none_own gb1)).trans C1); have B25 := Keep.mk ((hg.block gb2 (blk_lt C2) (none_own gb2)).trans C2)); (clear C1 C2 ho hb hg q5 q5f q6); (have p0 : w5.cell? ⟨gb1, 0, none⟩ = some (.int .i64 a0) := (blk_cell B15.out 0).trans rfl; have p1 : w5.cell? ⟨gb1, 1, none⟩ = some (.int .u16 a1) := (blk_cell B15.out 1).trans rfl; have p2 : w5.cell? ⟨gb1, 2, none⟩ = some (.int .i64 a2) := (blk_cell B15.out 2).trans rfl; have p3 : w5.cell? ⟨gb1, 3, none⟩ = some (.int .i64 a3) := (blk_cell B15.out 3).trans rfl; have p4 : w5.cell? ⟨gb1, 4, none⟩ = some (.int .i64 a4) := (blk_cell B15.out 4).trans rfl; have p5 : w5.cell? ⟨gb1, 5, none⟩ = some (.slice Av5 l5.length cv5) := (blk_cell B15.out 5).trans rfl; have p6 : w5.cell? ⟨gb1, 6, none⟩ = some (.slice A6 l6.length c6) := (blk_cell B15.out 6).trans rfl; have p6f := blk_frozen B15.out 6; have g0 : w5.cell? ⟨gb2, 0, none⟩ = some (.int .i64 0) := (blk_cell B25.out 0).trans rfl; have gf0 := blk_frozen B25.out 0; have g1 : w5.cell? ⟨gb2, 1, none⟩ = some (.int .u16 0) := (blk_cell B25.out 1).trans rfl; have gf1 := blk_frozen B25.out 1; have g2 : w5.cell? ⟨gb2, 2, none⟩ = some (.int .i64 0) := (blk_cell B25.out 2).trans rfl; have gf2 := blk_frozen B25.out 2; have g3 : w5.cell? ⟨gb2, 3, none⟩ = some (.int .i64 0) := (blk_cell B25.out 3).trans rfl; have gf3 := blk_frozen B25.out 3; have g4 : w5.cell? ⟨gb2, 4, none⟩ = some (.int .i64 0) := (blk_cell B25.out 4).trans rfl; have gf4 := blk_frozen B25.out 4; have g5 : w5.cell? ⟨gb2, 5, none⟩ = some (.slice none 0 0) := (blk_cell B25.out 5).trans rfl; have gf5 := blk_frozen B25.out 5; have g6 : w5.cell? ⟨gb2, 6, none⟩ = some (.slice none 0 0) := (blk_cell B25.out 6).trans rfl; have gf6 := blk_frozen B25.out 6)))
  have D1 := blk_far (p := ⟨gb1, 6, none⟩) B25.out hne2 (.slice Av6 l6.length cv6)
  have E0 := blk_put (cs' := #[.int .i64 a0, .int .u16 0, .int .i64 0, .int .i64 0, .int .i64 0, .slice none 0 0, .slice none 0 0]) D1 0 (.int .i64 a0) rfl
  have E1 := blk_put (cs' := #[.int .i64 a0, .int .u16 a1, .int .i64 0, .int .i64 0, .int .i64 0, .slice none 0 0, .slice none 0 0]) E0 1 (.int .u16 a1) rfl
  have E2 := blk_put (cs' := #[.int .i64 a0, .int .u16 a1, .int .i64 a2, .int .i64 0, .int .i64 0, .slice none 0 0, .slice none 0 0]) E1 2 (.int .i64 a2) rfl
  have E3 := blk_put (cs' := #[.int .i64 a0, .int .u16 a1, .int .i64 a2, .int .i64 a3, .int .i64 0, .slice none 0 0, .slice none 0 0]) E2 3 (.int .i64 a3) rfl
  have E4 := blk_put (cs' := #[.int .i64 a0, .int .u16 a1, .int .i64 a2, .int .i64 a3, .int .i64 a4, .slice none 0 0, .slice none 0 0]) E3 4 (.int .i64 a4) rfl
  have E5 := blk_put (cs' := #[.int .i64 a0, .int .u16 a1, .int .i64 a2, .int .i64 a3, .int .i64 a4, .slice Av5 l5.length cv5, .slice none 0 0]) E4 5 (.slice Av5 l5.length cv5) rfl
  have E6 := blk_put (cs' := #[.int .i64 a0, .int .u16 a1, .int .i64 a2, .int .i64 a3, .int .i64 a4, .slice Av5 l5.length cv5, .slice Av6 l6.length cv6]) E5 6 (.slice Av6 l6.length cv6) rfl
  have P := R_store O5s.out B15.out (by decide) 6 (.slice Av6 l6.length cv6)
  have P0 := R_store P D1 (by decide) 0 (.int .i64 a0)
  have P1 := R_store P0 E0 (by decide) 1 (.int .u16 a1)
  have P2 := R_store P1 E1 (by decide) 2 (.int .i64 a2)
  have P3 := R_store P2 E2 (by decide) 3 (.int .i64 a3)
  have P4 := R_store P3 E3 (by decide) 4 (.int .i64 a4)
  have P5 := R_store P4 E4 (by decide) 5 (.slice Av5 l5.length cv5)
  have P6 := R_store P5 E5 (by decide) 6 (.slice Av6 l6.length cv6)
  have Q := R_store O6.out B15.out (by decide) 6 (.slice Av6 l6.length cv6)
  have Q0 := R_store Q D1 (by decide) 0 (.int .i64 a0)
  have Q1 := R_store Q0 E0 (by decide) 1 (.int .u16 a1)
  have Q2 := R_store Q1 E1 (by decide) 2 (.int .i64 a2)
  have Q3 := R_store Q2 E2 (by decide) 3 (.int .i64 a3)
  have Q4 := R_store Q3 E3 (by decide) 4 (.int .i64 a4)
  have Q5 := R_store Q4 E4 (by decide) 5 (.slice Av5 l5.length cv5)
  have Q6 := R_store Q5 E5 (by decide) 6 (.slice Av6 l6.length cv6)
  have F := below_set (j := 6) (v := (.slice Av6 l6.length cv6)) HB5.out G1.out
  have F0 := below_set (j := 0) (v := (.int .i64 a0)) F G2.out
  have F1 := below_set (j := 1) (v := (.int .u16 a1)) F0 G2.out
  have F2 := below_set (j := 2) (v := (.int .i64 a2)) F1 G2.out
  have F3 := below_set (j := 3) (v := (.int .i64 a3)) F2 G2.out
  have F4 := below_set (j := 4) (v := (.int .i64 a4)) F3 G2.out
  have F5 := below_set (j := 5) (v := (.slice Av5 l5.length cv5)) F4 G2.out
  have F6 := below_set (j := 6) (v := (.slice Av6 l6.length cv6)) F5 G2.out
  refine bodyPost_ret (results_cell_row rfl _ _ gb2 54 #[.int .i64 a0, .int .u16 a1, .int .i64 a2, .int .i64 a3, .int .i64 a4, .slice Av5 l5.length cv5, .slice Av6 l6.length cv6] (0, 0) _ rfl E6 Try.underlying54 rfl (by kernel_rfl)) rfl ?_
  exact ⟨_, _, rfl, P6, Q6, F6⟩
end Go.Proofs.Ytochgkepaleblaa.Rec
