/- apartItems: lists of items of states that lie apart are told apart. -/
import Derived.Test.YtochgkepaleblaaMarks
set_option linter.unusedVariables false
set_option linter.unusedSimpArgs false
namespace Go.Proofs.Ytochgkepaleblaa.ApI
open Go.RowKit Go.Proofs.YtochgkepaleblaaW.PrintWords Go.Proofs.YtochgkepaleblaaW.PrintLast Go.Proofs.YtochgkepaleblaaW.PrintMore
open Go.Proofs.Ytochgkepaleblaa.Rowz Go.Proofs.Ytochgkepaleblaa.Marks
abbrev third3 : Nat → Nat := fun j => j * 3
def I54 : Type := { l : List Value // l.length = 7 ∧ ∀ u ∈ l, u.oneCell' = true }
def cells54 (a s : Int) : List Value := [.int .i64 a, .int .u16 0, .int .i64 0, .int .i64 s, .int .i64 0, .slice none 0 0, .slice none 0 0]
def itm (a s : Int) : I54 := ⟨cells54 a s, rfl, by
  intro u hu
  simp only [cells54, List.mem_cons, List.not_mem_nil, or_false] at hu
  rcases hu with rfl | rfl | rfl | rfl | rfl | rfl | rfl <;> rfl⟩
def K54 : EK I54 where
  E := 54
  H := 22
  sz := 7
  enc := fun x => x.1
  len := fun x => x.2.1
  one := fun x => x.2.2
  pos := by decide
  ne := by decide
  mrk := fun ln k i => if i < ln then itm (k : Int) (i : Int) else itm (-1 - (k : Int)) 0
theorem mrk_in {ln k i : Nat} (h : i < ln) : K54.enc (K54.mrk ln k i) = cells54 (k : Int) (i : Int) := by
  show (if i < ln then itm (k : Int) (i : Int) else itm (-1 - (k : Int)) 0).1 = _
  rw [if_pos h]
  rfl
theorem mrk_out {ln k i : Nat} (h : ¬ i < ln) : K54.enc (K54.mrk ln k i) = cells54 (-1 - (k : Int)) 0 := by
  show (if i < ln then itm (k : Int) (i : Int) else itm (-1 - (k : Int)) 0).1 = _
  rw [if_neg h]
  rfl
theorem infz : ∃ z : Value, (Try.prog.info? 54).map (fun i => (i.zero, i.size, i.bytes)) = some (some z, 7, 88) ∧ z.cells.size = 7 := ⟨_, Rec.info54, rfl⟩
theorem size54 : (Try.prog.info? 54).map (·.size) = some 7 := by kernel_rfl
theorem one54 (a s : Int) : (cells54 a s).toArray.all (·.oneCell') = true := all_oneCell_toArray (K54.one (itm a s))
theorem rg {w : World} {b o : Nat} {a s : Int} (h : w.rangeAt b o (cells54 a s)) : w.cell? ⟨b, o, none⟩ = some (.int .i64 a) ∧ w.cell? ⟨b, o + 3, none⟩ = some (.int .i64 s) :=
  ⟨h 0 _ rfl, h 3 _ rfl⟩
set_option maxHeartbeats 4000000 in
set_option maxRecDepth 100000 in
theorem apart (w : World) (N g n c : Nat) (V : Nat → Value) (X : Nat → List I54) (hN : N ≤ w.heap.size) (hn : n ≤ 10000000) (hX : ∀ j, j < n → (X j).length ≤ 10000000) (h : Rowz.Rows K54 w N g n third3 V X) :
    Calls Try.prog 40 #[.slice (some ⟨g, 0, none⟩) n c] w fun e w' => e = .returned (.bool true) ∧ Far (fun b => ∃ j, j < n ∧ (V j).ownBlock = some b) w w' := by
  have HR := Keep.mk (One.start h)
  have HX := Keep.mk hX
  have HN := Keep.mk hN
  clear h hX hN
  obtain ⟨zE, infE, zsE⟩ := infz
  have Hz := Keep.mk (And.intro infE zsE)
  clear infE zsE
  go_enter Try.func40, Try.ntmps40
  go_wp2
  go_loopw [3] (fun v3 w' => ∃ (k : Nat) (Y : Nat → List I54), k ≤ n ∧ v3 = .int .i64 k ∧ Keep (One K54 w w' N g n k 0 third3 V X Y)) (fun v3 _ => n - (intOf v3).toNat)
  case atStart => exact ⟨0, X, Nat.zero_le _, rfl, HR⟩
  case round =>
    clear HR
    obtain ⟨k, Y, hk, rfl, HR⟩ := hrel
    by_cases hlt : k < n
    · obtain ⟨A, cc, hv0⟩ := HR.out.rows.form hlt
      rw [HR.out.len k hlt] at hv0
      have hXk := HX.out k hlt
      have hv := Keep.mk hv0
      clear hv0
      obtain ⟨wo, hwo⟩ : ∃ wo : World, wo = wr := ⟨_, rfl⟩
      subst hwo
      generalize hlen : (X k).length = len at *
      have Hlen := Keep.mk hlen
      clear hlen
      go_wp2
      go_loopw [4] (fun v4 w' => ∃ (i : Nat) (Y : Nat → List I54), i ≤ len ∧ v4 = .int .i64 i ∧ Keep (One K54 w w' N g n k i third3 V X Y)) (fun v4 _ => len - (intOf v4).toNat)
      case atStart => exact ⟨0, Y, Nat.zero_le _, rfl, HR⟩
      case round =>
        clear HR
        obtain ⟨i, Y, hi, rfl, HR⟩ := hrel
        have hc : wr.cell? ⟨g, k * 3, none⟩ = some (.slice A len cc) := (HR.out.rows.cell k hlt).trans (by rw [hv.out])
        have hk0 : (0 : Int) ≤ (k : Int) := Int.natCast_nonneg _
        have hk1 : (k : Int) < (n : Int) := by omega
        by_cases hil : i < len
        · obtain ⟨b, c', hV0, hth, hjunk⟩ := HR.out.hit hlt (i := i) (by rw [Hlen.out]; exact hil)
          obtain rfl : A = some ⟨b, 0, none⟩ := by
            have := hv.out.symm.trans hV0
            injection this
          clear hV0 hjunk
          have hVb := Keep.mk (show (V k).ownBlock = some b by rw [hv.out]; rfl)
          have HTH := Keep.mk (show wr.there b (i * 7) 7 from hth)
          clear hth
          have hi0 : (0 : Int) ≤ (i : Int) := Int.natCast_nonneg _
          have hi1 : (i : Int) < (len : Int) := by omega
          have hmk := Keep.mk (show K54.enc (K54.mrk (X k).length k i) = cells54 (k : Int) (i : Int) from mrk_in (by rw [Hlen.out]; exact hil))
          have hn1 := HR.out.put hlt hVb.out (by rw [Hlen.out]; exact hil)
          rw [hmk.out] at hn1
          have HN1 := Keep.mk hn1
          clear hn1 hmk
          go_wp2_with ((with_reducible refine gate_store 54 (.tmp 38) (.tmp 37) rfl ?_); refine wpList_store_mid rfl 54 (.tmp 38) (.tmp 37) rfl b (i * 7) (cells54 (k : Int) (i : Int)).toArray rfl rfl HTH.out size54 (one54 _ _) ?_)
          clear HR HTH hc
          go_roundw
          case rel => exact ⟨i + 1, _, by omega, by go_num, HN1⟩
          case measure => simp [intOf]; omega
        · go_wp2
          have hii : i = len := by omega
          subst hii
          go_roundw
          case rel => exact ⟨k + 1, Y, by omega, by go_num, ⟨HR.out.next hlt Hlen.out.symm⟩⟩
          case measure => simp [intOf]; omega
    · have hkn : n = k := by omega
      subst hkn
      have HT0 := Keep.mk (Two.start HR.out)
      have HX' : Keep (∀ j, j < n → (fun j => (X j).length) j ≤ 10000000) := ⟨HX.out⟩
      clear HR HX
      generalize (fun j => (X j).length) = ln at HT0 HX'
      have HX := HX'
      clear HX' hlt hk
      obtain ⟨wo, hwo⟩ : ∃ wo : World, wo = wr := ⟨_, rfl⟩
      subst hwo
      go_wp2
      go_loopw [5, 6] (fun v5 v6 w' => ∃ (k : Nat) (T : Nat → Value), k ≤ n ∧ v6 = .int .i64 k ∧ Keep (Two K54 w w' N g n k 0 third3 V T ln v5)) (fun _ v6 _ => n - (intOf v6).toNat)
      case atStart => exact ⟨0, V, Nat.zero_le _, rfl, HT0⟩
      case round =>
        clear HT0
        obtain ⟨k, T, hk, rfl, HT⟩ := hrel
        by_cases hlt : k < n
        · obtain ⟨A0, c0, hT0⟩ := HT.out.formT hlt
          rw [extra_self, Nat.add_zero] at hT0
          have hV0 := Keep.mk ((HT.out.same k (.inr ⟨rfl, rfl⟩)).symm.trans hT0)
          have hT1 := Keep.mk hT0
          clear hT0
          have hc : wr.cell? ⟨g, k * 3, none⟩ = some (T k) := (HT.out.cell k hlt).trans (by rw [hV0.out, hT1.out])
          rw [hT1.out] at hc
          have hk0 : (0 : Int) ≤ (k : Int) := Int.natCast_nonneg _
          have hk1 : (k : Int) < (n : Int) := by omega
          have hln := HX.out k hlt
          generalize hl : ln k = len at hc hT1 hV0 hln
          have Hl := Keep.mk hl
          clear hl
          obtain ⟨wo2, hwo2⟩ : ∃ wo : World, wo = wr := ⟨_, rfl⟩
          subst hwo2
          go_wp2
          go_loopw [7, 8] (fun v7 v8 w' => ∃ (p : Nat) (T : Nat → Value) (A1 : Option Addr) (c1 : Nat), p ≤ 6 ∧ v8 = .int .i64 p ∧ v7 = .slice A1 (len + p) c1 ∧ Keep (T k = .slice A1 (len + p) c1) ∧ Keep (Two K54 w w' N g n k p third3 V T ln u5)) (fun _ v8 _ => 6 - (intOf v8).toNat)
          case atStart => exact ⟨0, T, A0, c0, by omega, rfl, rfl, hT1, HT⟩
          case round =>
            clear HT hT1 hc
            obtain ⟨p, T, A1, c1, hp, rfl, rfl, hT1, HT⟩ := hrel
            by_cases hp6 : p < 6
            · obtain ⟨i0, hinf, hz0, hz1, hz2⟩ := info_parts Hz.out.1
              have Hinf := Keep.mk (And.intro hinf (And.intro hz0 (And.intro hz1 hz2)))
              clear hinf hz0 hz1 hz2
              have hmo := Keep.mk (show K54.enc (K54.mrk len k (len + p)) = cells54 (-1 - (k : Int)) 0 from mrk_out (by omega))
              go_wp2_with (first | ((with_reducible refine gate_dst (N := 58) rfl ?_); refine wpList_buildSlice rfl 22 54 1 _ rfl (cells54 (-1 - (k : Int)) 0).toArray i0 zE Try.underlying22 Hinf.out.1 Hinf.out.2.1 ?h1 ?h2 ?h3 ?_; (case h1 => rw [Hinf.out.2.2.1]; decide); (case h2 => rw [Hinf.out.2.2.1]; decide); (case h3 => (simp only [List.map_toArray, List.map_cons, List.map_nil]; exact fillK K54 (itm (-1 - (k : Int)) 0) _ Hinf.out.2.2.1)); (try simp only [Act.put, List.setIfInBounds_toArray, List.set_cons_zero, List.set_cons_succ])) | ((with_reducible refine gate_builtin (b := .append) (xs := #[.tmp 54, .tmp 58]) rfl ?_); at_builtin; refine App.append_keep (w0 := wr) N rfl (.tmp 54) (.tmp 58) 22 54 zE 7 88 rfl Try.underlying22 Hz.out.1 Hz.out.2 (by decide) (by decide) (.slice A1 (len + p) c1) (len + p) (K54.flat (marks K54 len k (len + p))) (cells54 (-1 - (k : Int)) 0) rfl rfl rfl (itm (-1 - (k : Int)) 0).2.2 ?a2 (Below.refl _ _) ?a3 ?a4 ?_; (case a2 => exact HT.out.own1 hlt Hl.out hT1.out); (case a3 => exact Nat.le_trans HN.out HT.out.far.size); (case a4 => omega); intro v1 w1 ho hB hg hat hkk; rw [← hmo.out] at ho; have HA := Keep.mk (HT.out.app1 hlt Hl.out hT1.out ho hg hat hkk); clear ho hg hat hkk hB))
              obtain ⟨A2, c2, rfl, e2, hT3⟩ := HA.out
              have HT3 := Keep.mk hT3
              have hT4 := Keep.mk e2
              clear hT3 e2 HA HT hT1
              go_roundw
              case rel => exact ⟨p + 1, _, A2, c2, by omega, by go_num, by simp [Nat.add_assoc], hT4, HT3⟩
              case measure => simp [intOf]; omega
            · obtain rfl : p = 6 := by omega
              go_wp2_with (first | ((with_reducible refine gate_builtin (b := .append) (xs := #[.tmp 60, .tmp 62]) rfl ?_); at_builtin; refine App.append_keep (w0 := wr) w.heap.size rfl (.tmp 60) (.tmp 62) 85 22 (.slice none 0 0) 1 24 rfl Try.underlying85 info22 rfl (by decide) (by decide) u5 k (encs (fun x : Option Addr × Nat × Nat => Value.slice x.1 x.2.1 x.2.2) ((List.range k).map fun j => hdOf (T j))) [.slice A1 (len + 6) c1] rfl rfl rfl ?a1 HT.out.heads (Below.refl _ _) ?a3 ?a4 ?_; (case a1 => exact (by simp [Value.oneCell'])); (case a3 => exact HT.out.far.size); (case a4 => omega); intro v1 w1 ho hB hg hat hkk; have HA := Keep.mk (HT.out.push1 hlt hT1.out ho hg hat); clear ho hg hat hkk hB))
              clear HT hT1
              go_roundw
              case rel => exact ⟨k + 1, T, by omega, by go_num, HA⟩
              case measure => simp [intOf]; omega
        · have hkn : n = k := by omega
          subst hkn
          clear hk hlt
          obtain ⟨wo3, hwo3⟩ : ∃ wo : World, wo = wr := ⟨_, rfl⟩
          subst hwo3
          go_wp2
          go_loopw [9] (fun v9 w' => ∃ k : Nat, k ≤ n ∧ v9 = .int .i64 k ∧ Keep (Two K54 w w' N g n n 0 third3 V T ln u5)) (fun v9 _ => n - (intOf v9).toNat)
          case atStart => exact ⟨0, Nat.zero_le _, rfl, HT⟩
          case round =>
            clear HT
            obtain ⟨k, hk, rfl, HT⟩ := hrel
            by_cases hlt : k < n
            · obtain ⟨bG, cG, bT, cT, rfl, hcG, hcT⟩ := HT.out.third hlt
              have hln := HX.out k hlt
              obtain ⟨AV, cV, hV⟩ := HT.out.head hlt
              have hHV := Keep.mk hV
              have hcv : wr.cell? ⟨g, k * 3, none⟩ = some (.slice AV (ln k) cV) := (HT.out.cell k hlt).trans (by rw [hV])
              clear hcG hcT hV
              have hk0 : (0 : Int) ≤ (k : Int) := Int.natCast_nonneg _
              have hk1 : (k : Int) < (n : Int) := by omega
              obtain ⟨wo4, hwo4⟩ : ∃ wo : World, wo = wr := ⟨_, rfl⟩
              subst hwo4
              go_wp2
              clear hcv
              go_loopw [11] (fun v11 w' => ∃ i : Nat, i ≤ ln k + 6 ∧ v11 = .int .i64 i ∧ Keep (Two K54 w w' N g n n 0 third3 V T ln (.slice (some ⟨bG, 0, none⟩) n cG))) (fun v11 _ => ln k + 6 - (intOf v11).toNat)
              case atStart => exact ⟨0, Nat.zero_le _, rfl, HT⟩
              case round =>
                clear HT
                obtain ⟨i, hi, rfl, HT⟩ := hrel
                obtain ⟨bG', cG', bT, cT, hGe, hcG, hcT⟩ := HT.out.third hlt
                obtain ⟨rfl, rfl⟩ : bG' = bG ∧ cG' = cG := by
                  simp only [Value.slice.injEq, Option.some.injEq, Addr.mk.injEq] at hGe
                  exact ⟨hGe.1.1.symm, hGe.2.2.symm⟩
                clear hGe
                have hi0 : (0 : Int) ≤ (i : Int) := Int.natCast_nonneg _
                have hcv : wr.cell? ⟨g, k * 3, none⟩ = some (.slice AV (ln k) cV) := (HT.out.cell k hlt).trans (by rw [hHV.out])
                by_cases hil : i < ln k + 6
                · have hci := Keep.mk (show wr.rangeAt bT (i * 7) (K54.enc (K54.mrk (ln k) k i)) from hcT i hil)
                  clear hcT
                  by_cases hik : i < ln k
                  · obtain ⟨bV, rfl⟩ : ∃ bV, AV = some ⟨bV, 0, none⟩ := by
                      rcases HT.out.form k hlt with ⟨h1, h2⟩ | ⟨b, c', h1, _⟩
                      · omega
                      · rw [hHV.out] at h1
                        injection h1 with h1 _ _
                        exact ⟨b, h1⟩
                    have hvi0 : wr.rangeAt bV (i * 7) (K54.enc (K54.mrk (ln k) k i)) := HT.out.read k hlt bV (by rw [hHV.out]; rfl) i hik
                    rw [mrk_in hik] at hvi0
                    obtain ⟨hv1, hv2⟩ := rg hvi0
                    have nn1 := World.block_lt_of_cell? _ _ hcv
                    have nn2 := World.block_lt_of_cell? _ _ hv1
                    have hmo := Keep.mk (mrk_in (k := k) hik)
                    clear hvi0
                    generalize hlk : ln k = lk at *
                    clear hlk
                    have hi1 : (i : Int) < (lk : Int) := by omega
                    have hi2 : (i : Int) < ((lk + 6 : Nat) : Int) := by omega
                    have hci1 := hci.out
                    rw [hmo.out] at hci1
                    have hci := Keep.mk hci1
                    clear hci1
                    go_wp2_with (first | ((with_reducible refine gate_dst (N := 91) rfl ?_); refine wpList_load_mid rfl 54 (.tmp 90) rfl bT (i * 7) ?hx [.int .i64 ((k : Int)), .int .u16 0, .int .i64 0, .int .i64 ((i : Int)), .int .i64 0, .slice none 0 0, .slice none 0 0] _ hci.out Try.underlying54 rfl size54 ?_; (case hx => rfl); (try simp only [Act.put, List.setIfInBounds_toArray, List.set_cons_zero, List.set_cons_succ])) | ((with_reducible refine gate_store 54 (.tmp 12) (.tmp 91) rfl ?_); refine wpList_store_new rfl 54 (.tmp 12) (.tmp 91) rfl _ #[.int .i64 ((k : Int)), .int .u16 0, .int .i64 0, .int .i64 ((i : Int)), .int .i64 0, .slice none 0 0, .slice none 0 0] wr rfl rfl rfl size54 rfl (one54 ((k : Int)) ((i : Int))) ?_))
                    have HT9 : ∀ o : Obj, Keep (Two K54 w (wr.alloc o) N g n n 0 third3 V T ln (.slice (some ⟨bG', 0, none⟩) n cG')) := fun o => ⟨HT.out.below ((Below.refl _ _).alloc (Nat.le_refl _) o)⟩
                    clear HT
                    go_roundw
                    case rel => exact ⟨i + 1, by omega, by go_num, HT9 _⟩
                    case measure => simp [intOf]; omega
                  · have hmo := Keep.mk (mrk_out (k := k) hik)
                    generalize hlk : ln k = lk at *
                    clear hlk
                    have hi1 : ¬ (i : Int) < (lk : Int) := by omega
                    have hi1' : (lk : Int) ≤ (i : Int) := by omega
                    have hi1d : decide ((i : Int) < (lk : Int)) = false := decide_eq_false hi1
                    have hi1e : decide ((lk : Int) ≤ (i : Int)) = true := decide_eq_true hi1'
                    have hi2 : (i : Int) < ((lk + 6 : Nat) : Int) := by omega
                    have hci1 := hci.out
                    rw [hmo.out] at hci1
                    have hci := Keep.mk hci1
                    clear hci1
                    go_wp2_with (first | ((with_reducible refine gate_dst (N := 91) rfl ?_); refine wpList_load_mid rfl 54 (.tmp 90) rfl bT (i * 7) ?hx [.int .i64 (-1 - (k : Int)), .int .u16 0, .int .i64 0, .int .i64 (0), .int .i64 0, .slice none 0 0, .slice none 0 0] _ hci.out Try.underlying54 rfl size54 ?_; (case hx => rfl); (try simp only [Act.put, List.setIfInBounds_toArray, List.set_cons_zero, List.set_cons_succ])) | ((with_reducible refine gate_store 54 (.tmp 12) (.tmp 91) rfl ?_); refine wpList_store_new rfl 54 (.tmp 12) (.tmp 91) rfl _ #[.int .i64 (-1 - (k : Int)), .int .u16 0, .int .i64 0, .int .i64 (0), .int .i64 0, .slice none 0 0, .slice none 0 0] wr rfl rfl rfl size54 rfl (one54 (-1 - (k : Int)) (0)) ?_))
                    have HT9 : ∀ o : Obj, Keep (Two K54 w (wr.alloc o) N g n n 0 third3 V T ln (.slice (some ⟨bG', 0, none⟩) n cG')) := fun o => ⟨HT.out.below ((Below.refl _ _).alloc (Nat.le_refl _) o)⟩
                    clear HT
                    go_roundw
                    case rel => exact ⟨i + 1, by omega, by go_num, HT9 _⟩
                    case measure => simp [intOf]; omega
                · go_wp2
                  clear hcT
                  go_roundw
                  case rel => exact ⟨k + 1, by omega, by go_num, HT⟩
                  case measure => simp [intOf]; omega
            · go_wp2
              go_ret
              exact ⟨rfl, HT.out.far⟩
end Go.Proofs.Ytochgkepaleblaa.ApI
