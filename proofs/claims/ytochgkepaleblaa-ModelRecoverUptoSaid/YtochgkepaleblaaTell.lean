/- tell: two states are told, and noted down. -/
import Derived.Test.YtochgkepaleblaaFresh
set_option linter.unusedVariables false
set_option linter.unusedSimpArgs false
namespace Go.Proofs.Ytochgkepaleblaa.Tell
open Go.RowKit Go.Proofs.YtochgkepaleblaaW.PrintWords Go.Proofs.YtochgkepaleblaaW.PrintLast Go.Proofs.YtochgkepaleblaaW.PrintMore
open Go.Proofs.Ytochgkepaleblaa.Rowz Go.Proofs.Ytochgkepaleblaa.Marks Go.Proofs.Ytochgkepaleblaa.Rec
section
variable {P : Program} {ops : Array Oper} {rest : List Oper} {o : Oper} {a : Act} {Q : Exit → Act → World → Prop}
theorem append_src {W : World} (base : Nat) (hgd : o.guard = none) (s x : Operand) (t e : TypeId) (z : Value) (size bytes : Nat)
    (ho : o.op = .call { callee := .builtin .append, args := #[s, x], argTypes := #[t, t] })
    (ht : P.underlying t = some (.slice e)) (hinfo : (P.info? e).map (fun i => (i.zero, i.size, i.bytes)) = some (some z, size, bytes)) (hz : z.cells.size = size) (hs0 : 0 < size) (hb0 : 0 < bytes)
    (v : Value) (n : Nat) (xs ys : List Value) (ad : Addr) (m c : Nat) (hs : a.eval s = v) (hx : a.eval x = .slice (some ad) m c) (hys : ys.length = m * size) (hcl : ∀ j u, ys[j]? = some u → W.cell? (ad.add j) = some u) (h1 : ∀ u ∈ ys, u.oneCell' = true)
    (HO : W.ownsRow base e size v n xs) (hbase : base ≤ W.heap.size) (hl : (n + m) * bytes ≤ 140737488355328)
    (h : ∀ v1 w1, w1.ownsRow base e size v1 (n + m) (xs ++ ys) → W.grownBy w1 v.ownBlock → (v1.ownBlock = v.ownBlock ∨ ∃ b, v1.ownBlock = some b ∧ W.heap.size ≤ b) → wpList P ops Q rest (a.put o.dst v1) w1) :
    wpList P ops Q (o :: rest) a W := by
  obtain ⟨i0, hi, hzz⟩ := Option.map_eq_some_iff.1 hinfo
  simp only [Prod.mk.injEq] at hzz
  obtain ⟨hz0, hz1, hz2⟩ := hzz
  have hlen : n + m ≤ 140737488355328 := Nat.le_trans (Nat.le_mul_of_pos_right _ hb0) hl
  obtain ⟨v1, w1, hr, hown, hg, hat, hk⟩ := App.run_append_keep (P := P) (w := W) base t o.type e i0 z size bytes ht hi hz0 hz1 hz2 hz hs0 v n xs HO ad m c ys hys hcl h1 (by simp only [maxLen]; omega) hl hbase
  refine wpList_plain hgd fun K hK => ?_
  unfold Oper.wp execOp
  simp only [ho, resolve, invoke, builtin, Sem.run_bind, Sem.run_pure, Result.andThen_ok, List.map_toArray, List.map_cons, List.map_nil, hs, hx, hr]
  refine hK _ _ (h v1 w1 hown hg ?_)
  rcases hat with hat | hat
  · exact .inl hat
  · exact .inr ⟨_, hat, Nat.le_refl _⟩
end
abbrev nil_ : Value := .slice none 0 0
/-- What tell leaves. -/
def Told (W : World) (yb : Nat) (cL cM : List Value) (w' : World) : Prop := ∃ v1 v2, w'.heap[yb]? = some (.cells #[v1, v2, nil_, nil_] 30 (0, 0)) ∧ w'.ownsRow W.heap.size 24 3 v1 2 cL ∧ w'.ownsRow W.heap.size 24 3 v2 2 cM ∧ NeRow v1 v2 ∧ Far (fun b => b = yb) W w'
theorem info24 : (Try.prog.info? 24).map (fun i => (i.zero, i.size, i.bytes)) = some (some (.agg #[.slice none 0 0, .int .i64 0, .int .i64 0]), 3, 40) := by kernel_rfl
theorem blk_src {W : World} {g : Nat} {cs : List Value} {t : TypeId} (h : W.heap[g]? = some (.cells cs.toArray t (0, 0))) : ∀ j u, cs[j]? = some u → W.cell? ((⟨g, 0, none⟩ : Addr).add j) = some u := fun j u hj => by
  rw [add_plain, blk_cell h]
  simpa using hj
theorem told_of {W w1 w2 w3 : World} {yb : Nat} {cL cM : List Value} {v1 v2 : Value} {ys : Array Value} (hb : Below W.heap.size W w1) (hy : w1.heap[yb]? = some (.cells ys 30 (0, 0))) (hys : ys = #[nil_, nil_, nil_, nil_])
    (ho1 : w2.ownsRow W.heap.size 24 3 v1 2 cL) (hg1 : w1.grownBy w2 none) (ho2 : w3.ownsRow W.heap.size 24 3 v2 2 cM) (hg2 : (w2.setCell ⟨yb, 0, none⟩ v1).grownBy w3 none) (hat : ∀ b, v2.ownBlock = some b → (w2.setCell ⟨yb, 0, none⟩ v1).heap.size ≤ b) : Told W yb cL cM (w3.setCell ⟨yb, 1, none⟩ v2) := by
  subst hys
  have hyb : yb < w1.heap.size := blk_lt hy
  have hy2 : w2.heap[yb]? = some (.cells #[nil_, nil_, nil_, nil_] 30 (0, 0)) := (hg1.block yb hyb (by simp)).trans hy
  have hs2 : (w2.setCell ⟨yb, 0, none⟩ v1).heap.size = w2.heap.size := by simp [World.setCell]
  have hy2' := blk_set hy2 0 v1
  have hy3 : w3.heap[yb]? = some (.cells #[v1, nil_, nil_, nil_] 30 (0, 0)) := (hg2.block yb (by rw [hs2]; exact blk_lt hy2) (by simp)).trans hy2'
  have ne1 : ∀ k, v1.ownBlock = some k → k ≠ yb := fun k hk e => by
    obtain ⟨c, hc⟩ := own_typed ho1 k hk
    rw [e, hy2] at hc
    simp at hc
  have ho1' : w3.ownsRow W.heap.size 24 3 v1 2 cL := own_move ho1 fun k hk => (hg2.block k (by rw [hs2]; exact own_lt ho1 k hk) (by simp)).trans (Below.heap_setCell w2 ⟨yb, 0, none⟩ v1 k (ne1 k hk))
  have ne1' : ∀ k, v1.ownBlock = some k → k ≠ yb := ne1
  have ne2 : ∀ k, v2.ownBlock = some k → k ≠ yb := fun k hk e => by
    obtain ⟨c, hc⟩ := own_typed ho2 k hk
    rw [e, hy3] at hc
    simp at hc
  refine ⟨v1, v2, blk_set hy3 1 v2, own_setCell ho1' (fun e => ne1 yb e.symm rfl) v2, own_setCell ho2 (fun e => ne2 yb e.symm rfl) v2, fun k hk hk' => ?_, ?_⟩
  · have h1 := own_lt ho1 k hk
    have h2 := hat k hk'
    rw [hs2] at h2
    omega
  have hf1 : Far (fun b => b = yb) W w2 := ((Far.refl _ _).below hb).grown hg1 (fun k hk => by cases hk)
  have hf2 : Far (fun b => b = yb) W (w2.setCell ⟨yb, 0, none⟩ v1) := hf1.put (b := yb) (.inl rfl) 0 [v1]
  have hf3 : Far (fun b => b = yb) W w3 := hf2.grown hg2 (fun k hk => by cases hk)
  exact hf3.put (b := yb) (.inl rfl) 1 [v2]
/-- Two states appended to no list. -/
theorem app24 {W : World} {ops : Array Oper} {rest : List Oper} {o : Oper} {a : Act} {Q : Exit → Act → World → Prop} (hgd : o.guard = none) (s x : Operand) (ho : o.op = .call { callee := .builtin .append, args := #[s, x], argTypes := #[27, 27] })
    (base : Nat) (ys : List Value) (g : Nat) (hs : a.eval s = .slice none 0 0) (hx : a.eval x = .slice (some ⟨g, 0, none⟩) 2 2) (hys : ys.length = 6) (hh : W.heap[g]? = some (.cells ys.toArray 24 (0, 0))) (h1 : ∀ u ∈ ys, u.oneCell' = true) (hbase : base ≤ W.heap.size)
    (h : ∀ v1 w1, w1.ownsRow base 24 3 v1 2 ys → W.grownBy w1 none → (∀ b, v1.ownBlock = some b → W.heap.size ≤ b) → wpList Try.prog ops Q rest (a.put o.dst v1) w1) : wpList Try.prog ops Q (o :: rest) a W :=
  append_src base hgd s x 27 24 (.agg #[.slice none 0 0, .int .i64 0, .int .i64 0]) 3 40 ho Try.underlying27 info24 rfl (by decide) (by decide) (.slice none 0 0) 0 [] ys ⟨g, 0, none⟩ 2 2 hs hx hys (blk_src hh) h1 (own_nil _ _ _ _) hbase (by omega)
    fun v1 w1 ho hg hat => h v1 w1 ho hg (fun b hb => by
      rcases hat with hat | ⟨b', hb', hle⟩
      · rw [hat] at hb
        cases hb
      · rw [hb'] at hb
        injection hb with hb
        omega)
theorem mid {W w1 w2 : World} {yb gm : Nat} {cM : List Value} {ys : Array Value} (hb : Below W.heap.size W w1) (hm : W.heap[gm]? = some (.cells cM.toArray 24 (0, 0))) (hy2 : w2.heap[yb]? = some (.cells ys 30 (0, 0))) (hg : w1.grownBy w2 none) (v : Value) :
    (w2.setCell ⟨yb, 0, none⟩ v).heap[gm]? = some (.cells cM.toArray 24 (0, 0)) ∧ W.heap.size ≤ (w2.setCell ⟨yb, 0, none⟩ v).heap.size := by
  have h1 := (hb.block gm (blk_lt hm)).trans hm
  have h2 := (hg.block gm (blk_lt h1) (by simp)).trans h1
  refine ⟨blk_far (p := ⟨yb, 0, none⟩) h2 (fun e => ?_) v, ?_⟩
  · have e' : gm = yb := e
    rw [e', hy2] at h2
    simp at h2
  · have := hb.size
    have := hg.size
    simp [World.setCell]
    omega
theorem last {w2 w3 : World} {yb : Nat} {v : Value} (hy2 : w2.heap[yb]? = some (.cells #[nil_, nil_, nil_, nil_] 30 (0, 0))) (hg : (w2.setCell ⟨yb, 0, none⟩ v).grownBy w3 none) : w3.heap[yb]? = some (.cells #[v, nil_, nil_, nil_] 30 (0, 0)) :=
  (hg.block yb (by rw [show (w2.setCell ⟨yb, 0, none⟩ v).heap.size = w2.heap.size by simp [World.setCell]]; exact blk_lt hy2) (by simp)).trans (blk_set hy2 0 v)
set_option maxHeartbeats 4000000 in
set_option maxRecDepth 100000 in
theorem tell (W : World) (yb gl gm : Nat) (cL cM : List Value) (hlL : cL.length = 6) (hlM : cM.length = 6) (h1L : ∀ u ∈ cL, u.oneCell' = true) (h1M : ∀ u ∈ cM, u.oneCell' = true)
    (hy : W.heap[yb]? = some (.cells #[nil_, nil_, nil_, nil_] 30 (0, 0))) (hl : W.heap[gl]? = some (.cells cL.toArray 24 (0, 0))) (hm : W.heap[gm]? = some (.cells cM.toArray 24 (0, 0)))
    (hsame : Calls Try.prog 32 #[.slice (some ⟨gl, 0, none⟩) 2 2, .slice (some ⟨gm, 0, none⟩) 2 2] W fun e w' => e = .returned (.bool true) ∧ Below W.heap.size W w') :
    Calls Try.prog 11 #[.pointer (some ⟨yb, 0, none⟩), .slice (some ⟨gl, 0, none⟩) 2 2, .slice (some ⟨gm, 0, none⟩) 2 2] W fun e w' => e = .returned (.bool true) ∧ Told W yb cL cM w' := by
  have HL := Keep.mk (And.intro hlL (And.intro hlM (And.intro h1L h1M)))
  have HH := Keep.mk (And.intro hy (And.intro hl hm))
  have HS := Keep.mk hsame
  clear hlL hlM h1L h1M hy hl hm hsame
  go_enter Try.func11, Try.ntmps11
  go_wp2_with (first | (go_at_call 32; (with_reducible refine HS.out.mono ?_); rintro e w1 ⟨rfl, hb⟩; have HY := Keep.mk ((hb.block yb (blk_lt HH.out.1)).trans HH.out.1); have hy0 : w1.cell? ⟨yb, 0, none⟩ = some nil_ := (by rw [blk_cell HY.out]; rfl); have HB := Keep.mk hb; clear hb) | ((with_reducible refine gate_builtin (b := .append) (xs := #[.tmp 15, .tmp 16]) rfl ?_); at_builtin; go_loud (refine app24 rfl (.tmp 15) (.tmp 16) rfl W.heap.size cL gl rfl rfl HL.out.1 ((HB.out.block gl (blk_lt HH.out.2.1)).trans HH.out.2.1) HL.out.2.2.1 HB.out.size ?_); intro v1 w2 ho hg hat; obtain ⟨A1, c1, rfl⟩ := own_slice ho; have HO1 := Keep.mk (And.intro ho hg); clear hy0 hat; have HY2 := Keep.mk ((hg.block yb (blk_lt HY.out) (by simp)).trans HY.out); have hy0 : w2.cell? ⟨yb, 0, none⟩ = some nil_ := (by rw [blk_cell HY2.out]; rfl); have hy1 : w2.cell? ⟨yb, 1, none⟩ = some nil_ := (by rw [blk_cell HY2.out]; rfl); have hf0 : w2.frozen? ⟨yb, 0, none⟩ = false := blk_frozen HY2.out 0; have hf1 : w2.frozen? ⟨yb, 1, none⟩ = false := blk_frozen HY2.out 1; clear ho hg) | ((with_reducible refine gate_builtin (b := .append) (xs := #[.tmp 24, .tmp 25]) rfl ?_); at_builtin; go_loud (refine app24 rfl (.tmp 24) (.tmp 25) rfl W.heap.size cM gm rfl rfl HL.out.2.1 (mid HB.out HH.out.2.2 HY2.out HO1.out.2 _).1 HL.out.2.2.2 (mid HB.out HH.out.2.2 HY2.out HO1.out.2 _).2 ?_); intro v2 w3 ho hg hat; obtain ⟨A2, c2, rfl⟩ := own_slice ho; have HO2 := Keep.mk (And.intro ho (And.intro hg hat)); clear hat; have HY3 := Keep.mk (last HY2.out hg); clear hy0 hy1 hf0 hf1 ho hg; have hz1 : w3.cell? ⟨yb, 1, none⟩ = some nil_ := (by rw [blk_cell HY3.out]; rfl); have hzf : w3.frozen? ⟨yb, 1, none⟩ = false := blk_frozen HY3.out 1) | fail)
  go_ret
  exact ⟨rfl, told_of HB.out HY.out rfl HO1.out.1 HO1.out.2 HO2.out.1 HO2.out.2.1 HO2.out.2.2⟩
end Go.Proofs.Ytochgkepaleblaa.Tell
