/- ApH: rows that lie apart are told apart; printed by gen_apart.py of this session. -/
import Derived.Test.YtochgkepaleblaaMarks
set_option linter.unusedVariables false
set_option linter.unusedSimpArgs false
namespace Go.Proofs.Ytochgkepaleblaa.ApH
open Go.RowKit Go.Proofs.YtochgkepaleblaaW.PrintWords Go.Proofs.YtochgkepaleblaaW.PrintLast Go.Proofs.YtochgkepaleblaaW.PrintMore
open Go.Proofs.Ytochgkepaleblaa.Rowz Go.Proofs.Ytochgkepaleblaa.Marks
abbrev ident : Nat → Nat := fun j => j
theorem hc {wr w1 : World} {p o : Nat} {v : Value} (hb : Below wr.heap.size wr w1) (h : wr.cell? ⟨p, o, none⟩ = some v) : w1.cell? ⟨p, o, none⟩ = some v := (hb.cell (p := ⟨p, o, none⟩) (World.block_lt_of_cell? _ _ h)).trans h
theorem hdr1 {wr : World} {p o : Nat} {v : Value} (h : wr.cell? ⟨p, o, none⟩ = some v) : wr.drew.cell? ⟨p, o, none⟩ = some v := hc (Below.refl _ _).drew h
theorem ht {wr w1 : World} {p o n : Nat} (hb : Below wr.heap.size wr w1) (h : wr.there p o n) : w1.there p o n := fun j hj => by
  obtain ⟨h1, h2⟩ := h j hj
  obtain ⟨u, hu⟩ := Option.isSome_iff_exists.1 h1
  have hl := World.block_lt_of_cell? _ _ hu
  exact ⟨by rw [hb.cell (p := ⟨p, o + j, none⟩) hl]; exact h1, by rw [hb.frozen (p := ⟨p, o + j, none⟩) hl]; exact h2⟩
theorem hr {wr w1 : World} {p o : Nat} {cs : List Value} (hb : Below wr.heap.size wr w1) (h : wr.rangeAt p o cs) : w1.rangeAt p o cs := fun j v hj => hc hb (h j v hj)
theorem infz : ∃ z : Value, (Try.prog.info? 63).map (fun i => (i.zero, i.size, i.bytes)) = some (some z, 1025, 1032) ∧ z.cells.size = 1025 := Held.info63x
/-- What is held while a mark is made: with q = i or i + 1. -/
def Stand (w w' : World) (N g n k i : Nat) (V : Nat → Value) (X : Nat → List Held.B63) : Prop := ∃ Y q, One K63 w w' N g n k q ident V X Y
set_option maxHeartbeats 4000000 in
set_option maxRecDepth 100000 in
theorem apart (w : World) (N g n c : Nat) (V : Nat → Value) (X : Nat → List Held.B63) (hN : N ≤ w.heap.size) (hn : n ≤ 10000000) (hX : ∀ j, j < n → (X j).length ≤ 10000000) (h : Rowz.Rows K63 w N g n ident V X) :
    Calls Try.prog 39 #[.slice (some ⟨g, 0, none⟩) n c] w fun e w' => e = .returned (.bool true) ∧ Far (fun b => ∃ j, j < n ∧ (V j).ownBlock = some b) w w' := by
  have HR := Keep.mk (One.start h)
  have HX := Keep.mk hX
  have HN := Keep.mk hN
  clear h hX hN
  obtain ⟨zE, infE, zsE⟩ := infz
  have Hz := Keep.mk (And.intro infE zsE)
  clear infE zsE
  go_enter Try.func39, Try.ntmps39
  go_wp2
  go_loopw [3] (fun v3 w' => ∃ (k : Nat) (Y : Nat → List Held.B63), k ≤ n ∧ v3 = .int .i64 k ∧ Keep (One K63 w w' N g n k 0 ident V X Y)) (fun v3 _ => n - (intOf v3).toNat)
  case atStart => exact ⟨0, X, Nat.zero_le _, rfl, HR⟩
  case round =>
    clear HR
    obtain ⟨k, Y, hk, rfl, HR⟩ := hrel
    by_cases hlt : k < n
    · obtain ⟨A, cc, hv0⟩ := HR.out.rows.form hlt
      rw [HR.out.len k hlt] at hv0
      have hXk := HX.out k hlt
      have hv := Keep.mk hv0
      clear hv0
      obtain ⟨wo, hwo⟩ : ∃ wo : World, wo = wr := ⟨_, rfl⟩
      subst hwo
      generalize hlen : (X k).length = len at *
      have Hlen := Keep.mk hlen
      clear hlen
      go_wp2
      go_loopw [4] (fun v4 w' => ∃ (i : Nat) (Y : Nat → List Held.B63), i ≤ len ∧ v4 = .int .i64 i ∧ Keep (One K63 w w' N g n k i ident V X Y)) (fun v4 _ => len - (intOf v4).toNat)
      case atStart => exact ⟨0, Y, Nat.zero_le _, rfl, HR⟩
      case round =>
        clear HR
        obtain ⟨i, Y, hi, rfl, HR⟩ := hrel
        have hc : wr.cell? ⟨g, k, none⟩ = some (.slice A len cc) := (HR.out.rows.cell k hlt).trans (by rw [hv.out])
        have hk0 : (0 : Int) ≤ (k : Int) := Int.natCast_nonneg _
        have hk1 : (k : Int) < (n : Int) := by omega
        by_cases hil : i < len
        · obtain ⟨b, c', hV0, hth, hjunk⟩ := HR.out.hit hlt (i := i) (by rw [Hlen.out]; exact hil)
          obtain rfl : A = some ⟨b, 0, none⟩ := by
            have := hv.out.symm.trans hV0
            injection this
          clear hV0
          have hVb := Keep.mk (show (V k).ownBlock = some b by rw [hv.out]; rfl)
          have HH := Keep.mk (And.intro hc (And.intro (show wr.there b (i * 1025) 1025 from hth) (show Stand w wr N g n k i V X from ⟨Y, i, HR.out⟩)))
          have hc0 := HH.out.1
          clear hth hc hjunk
          have hi0 : (0 : Int) ≤ (i : Int) := Int.natCast_nonneg _
          have hi1 : (i : Int) < (len : Int) := by omega
          have hw1 : IntKind.i64.wrap ((k : Int) + 10) = (k : Int) + 10 := IntWalk.i64_in _ (by omega)
          go_wp2
          clear hc0
          refine wp_region_held_drew (S := fun w' => w'.cell? ⟨g, k, none⟩ = some (.slice (some ⟨b, 0, none⟩) len cc) ∧ w'.there b (i * 1025) 1025 ∧ Stand w w' N g n k i V X) (by kernel_rfl) ⟨hdr1 HH.out.1, (World.there_drew _ _ _ _).2 HH.out.2.1, ⟨Y, i, HR.out.drew⟩⟩ (fun hHeld => ?_)
          refine wpAnyH_take (i := 0) (oi := { dst := some 26, op := Op.move (Operand.tmp 0), type := 67, pos := "lists.go:396", after := #[], guard := none }) (v := ?va0) rfl (by kernel_rfl) (by kernel_rfl) (by kernel_rfl) (fun _ _ _ h => h) (Or.inl ⟨by rfl, ?ya0⟩) (by assumption) ?ra0
          case ya0 => ((intro w hSw; (try dsimp only at hSw); go_simp) <;> with_reducible rfl)
          (try simp only [Act.put, List.setIfInBounds_toArray, List.set_cons_zero, List.set_cons_succ])
          refine wpAnyH_take (i := 1) (oi := { dst := some 27, op := Op.move (Operand.tmp 3), type := 3, pos := "lists.go:396", after := #[], guard := none }) (v := ?va1) rfl (by kernel_rfl) (by kernel_rfl) (by kernel_rfl) (fun _ _ _ h => h) (Or.inl ⟨by rfl, ?ya1⟩) (by assumption) ?ra1
          case ya1 => ((intro w hSw; (try dsimp only at hSw); go_simp) <;> with_reducible rfl)
          (try simp only [Act.put, List.setIfInBounds_toArray, List.set_cons_zero, List.set_cons_succ])
          refine wpAnyH_take (i := 2) (oi := { dst := some 28, op := Op.indexAddr 67 (Operand.tmp 26) (Operand.tmp 27), type := 0, pos := "lists.go:396", after := #[{ on := 0, ground := Ground.data }, { on := 1, ground := Ground.data }], guard := none }) (v := ?va2) rfl (by kernel_rfl) (by kernel_rfl) (by kernel_rfl) (fun _ _ _ h => h) (Or.inl ⟨by rfl, ?ya2⟩) (by assumption) ?ra2
          case ya2 => ((intro w hSw; (try dsimp only at hSw); go_simp) <;> with_reducible rfl)
          (try simp only [Act.put, List.setIfInBounds_toArray, List.set_cons_zero, List.set_cons_succ])
          refine wpAnyH_take (i := 3) (oi := { dst := some 29, op := Op.load 51 (Operand.tmp 28), type := 51, pos := "lists.go:396", after := #[{ on := 2, ground := Ground.data }], guard := none }) (v := ?va3) rfl (by kernel_rfl) (by kernel_rfl) (by kernel_rfl) (fun _ _ _ h => h) (Or.inl ⟨by rfl, ?ya3⟩) (by assumption) ?ra3
          case ya3 => ((intro w hSw; (try dsimp only at hSw); go_simp) <;> with_reducible rfl)
          (try simp only [Act.put, List.setIfInBounds_toArray, List.set_cons_zero, List.set_cons_succ])
          refine wpAnyH_take (i := 4) (oi := { dst := some 30, op := Op.move (Operand.tmp 4), type := 3, pos := "lists.go:396", after := #[], guard := none }) (v := ?va4) rfl (by kernel_rfl) (by kernel_rfl) (by kernel_rfl) (fun _ _ _ h => h) (Or.inl ⟨by rfl, ?ya4⟩) (by assumption) ?ra4
          case ya4 => ((intro w hSw; (try dsimp only at hSw); go_simp) <;> with_reducible rfl)
          (try simp only [Act.put, List.setIfInBounds_toArray, List.set_cons_zero, List.set_cons_succ])
          refine wpAnyH_take (i := 5) (oi := { dst := some 31, op := Op.move (Operand.tmp 3), type := 3, pos := "lists.go:396", after := #[], guard := none }) (v := ?va5) rfl (by kernel_rfl) (by kernel_rfl) (by kernel_rfl) (fun _ _ _ h => h) (Or.inl ⟨by rfl, ?ya5⟩) (by assumption) ?ra5
          case ya5 => ((intro w hSw; (try dsimp only at hSw); go_simp) <;> with_reducible rfl)
          (try simp only [Act.put, List.setIfInBounds_toArray, List.set_cons_zero, List.set_cons_succ])
          refine wpAnyH_take (i := 6) (oi := { dst := some 32, op := Op.binOp BinOp.add 3 (Operand.tmp 31) (Operand.const (Value.int IntKind.i64 10)) 3, type := 3, pos := "lists.go:396", after := #[{ on := 5, ground := Ground.data }], guard := none }) (v := ?va6) rfl (by kernel_rfl) (by kernel_rfl) (by kernel_rfl) (fun _ _ _ h => h) (Or.inl ⟨by rfl, ?ya6⟩) (by assumption) ?ra6
          case ya6 => ((intro w hSw; (try dsimp only at hSw); go_simp) <;> with_reducible rfl)
          (try simp only [Act.put, List.setIfInBounds_toArray, List.set_cons_zero, List.set_cons_succ])
          refine wpAnyH_take (i := 7) (oi := { dst := some 33, op := Op.move (Operand.tmp 4), type := 3, pos := "lists.go:396", after := #[], guard := none }) (v := ?va7) rfl (by kernel_rfl) (by kernel_rfl) (by kernel_rfl) (fun _ _ _ h => h) (Or.inl ⟨by rfl, ?ya7⟩) (by assumption) ?ra7
          case ya7 => ((intro w hSw; (try dsimp only at hSw); go_simp) <;> with_reducible rfl)
          (try simp only [Act.put, List.setIfInBounds_toArray, List.set_cons_zero, List.set_cons_succ])
          refine wpAnyH_ready (rs := [8]) (by kernel_rfl) (by simp) ?_
          refine AllReadyH.cons rfl (fun K hK => ?_) AllReadyH.nil
          go_simp
          go_at_call 47
          (with_reducible refine (mark63 (X k).length k i _ (by omega) (by omega)).mono ?_)
          rintro e w2 ⟨rfl, hb⟩
          go_wp2_with fail
          refine hK.out _ _ ⟨hc hb (hdr1 HH.out.1), ht hb ((World.there_drew _ _ _ _).2 HH.out.2.1), ⟨Y, i, HR.out.drew.below hb⟩⟩ (fun hHeld2 => ?_)
          clear hK K hHeld
          (try simp only [Act.put, List.setIfInBounds_toArray, List.set_cons_zero, List.set_cons_succ])
          refine wpAnyH_take (i := 9) (oi := { dst := some 35, op := Op.indexAddr 51 (Operand.tmp 29) (Operand.tmp 30), type := 0, pos := "lists.go:396", after := #[{ on := 3, ground := Ground.data }, { on := 4, ground := Ground.data }, { on := 0, ground := Ground.phase }, { on := 1, ground := Ground.phase }, { on := 2, ground := Ground.phase }, { on := 3, ground := Ground.phase }, { on := 4, ground := Ground.phase }, { on := 5, ground := Ground.phase }, { on := 6, ground := Ground.phase }, { on := 7, ground := Ground.phase }, { on := 8, ground := Ground.phase }], guard := none }) (v := ?va9) rfl (by kernel_rfl) (by kernel_rfl) (by kernel_rfl) (fun _ _ _ h => h) (Or.inl ⟨by rfl, ?ya9⟩) (by assumption) ?ra9
          case ya9 => ((intro w hSw; (try dsimp only at hSw); go_simp) <;> with_reducible rfl)
          (try simp only [Act.put, List.setIfInBounds_toArray, List.set_cons_zero, List.set_cons_succ])
          refine wpAnyH_ready (rs := [10]) (by kernel_rfl) (by simp) ?_
          refine AllReadyH.cons rfl (fun K hK => ?_) AllReadyH.nil
          rw [if_pos (by rfl)]
          refine wp_store_mid 63 (.tmp 35) (.tmp 34) rfl b (i * 1025) (K63.enc (K63.mrk (X k).length k i)).toArray rfl rfl ?h1 ?h2 (all_oneCell_toArray (K63.one _)) ?_
          case h1 => rw [List.size_toArray, K63.len]; exact ht hb ((World.there_drew _ _ _ _).2 HH.out.2.1)
          case h2 => rw [List.size_toArray, K63.len]; exact Held.size63
          simp only [List.toList_toArray]
          have HN1 := Keep.mk ((HR.out.drew.below hb).put hlt hVb.out (by rw [Hlen.out]; exact hil))
          refine hK.out _ _ ⟨?k1, ?k2, ⟨_, _, HN1.out⟩⟩ (fun hHeld3 => ?_)
          case k1 => exact (HN1.out.rows.cell k hlt).trans (by rw [hv.out])
          case k2 => exact World.there_setCells (ht hb ((World.there_drew _ _ _ _).2 HH.out.2.1)) _ _ _
          clear hK K hHeld2
          (try simp only [Act.put, List.setIfInBounds_toArray, List.set_cons_zero, List.set_cons_succ])
          refine wpAnyH_done (by kernel_rfl) ?_ _
          clear hHeld3 HH HR
          clear hb
          go_wp2
          go_roundw
          case rel => exact ⟨i + 1, _, by omega, by go_num, HN1⟩
          case measure => simp [intOf]; omega
        · go_wp2
          have hii : i = len := by omega
          subst hii
          go_roundw
          case rel => exact ⟨k + 1, Y, by omega, by go_num, ⟨HR.out.next hlt Hlen.out.symm⟩⟩
          case measure => simp [intOf]; omega
    · have hkn : n = k := by omega
      subst hkn
      have HT0 := Keep.mk (Two.start HR.out)
      have HX' : Keep (∀ j, j < n → (fun j => (X j).length) j ≤ 10000000) := ⟨HX.out⟩
      clear HR HX
      generalize (fun j => (X j).length) = ln at HT0 HX'
      have HX := HX'
      clear HX' hlt hk
      obtain ⟨wo, hwo⟩ : ∃ wo : World, wo = wr := ⟨_, rfl⟩
      subst hwo
      go_wp2
      go_loopw [5, 6] (fun v5 v6 w' => ∃ (k : Nat) (T : Nat → Value), k ≤ n ∧ v6 = .int .i64 k ∧ Keep (Two K63 w w' N g n k 0 ident V T ln v5)) (fun _ v6 _ => n - (intOf v6).toNat)
      case atStart => exact ⟨0, V, Nat.zero_le _, rfl, HT0⟩
      case round =>
        clear HT0
        obtain ⟨k, T, hk, rfl, HT⟩ := hrel
        by_cases hlt : k < n
        · obtain ⟨A0, c0, hT0⟩ := HT.out.formT hlt
          rw [extra_self, Nat.add_zero] at hT0
          have hV0 := Keep.mk ((HT.out.same k (.inr ⟨rfl, rfl⟩)).symm.trans hT0)
          have hT1 := Keep.mk hT0
          clear hT0
          have hc : wr.cell? ⟨g, k, none⟩ = some (T k) := (HT.out.cell k hlt).trans (by rw [hV0.out, hT1.out])
          rw [hT1.out] at hc
          have hk0 : (0 : Int) ≤ (k : Int) := Int.natCast_nonneg _
          have hk1 : (k : Int) < (n : Int) := by omega
          have hln := HX.out k hlt
          generalize hl : ln k = len at hc hT1 hV0 hln
          have Hl := Keep.mk hl
          clear hl
          obtain ⟨wo2, hwo2⟩ : ∃ wo : World, wo = wr := ⟨_, rfl⟩
          subst hwo2
          go_wp2
          go_loopw [7, 8] (fun v7 v8 w' => ∃ (p : Nat) (T : Nat → Value) (A1 : Option Addr) (c1 : Nat), p ≤ 6 ∧ v8 = .int .i64 p ∧ v7 = .slice A1 (len + p) c1 ∧ Keep (T k = .slice A1 (len + p) c1) ∧ Keep (Two K63 w w' N g n k p ident V T ln u5)) (fun _ v8 _ => 6 - (intOf v8).toNat)
          case atStart => exact ⟨0, T, A0, c0, by omega, rfl, rfl, hT1, HT⟩
          case round =>
            clear HT hT1 hc
            obtain ⟨p, T, A1, c1, hp, rfl, rfl, hT1, HT⟩ := hrel
            have hc : wr.cell? ⟨g, k, none⟩ = some (.slice A0 len c0) := (HT.out.cell k hlt).trans (by rw [hV0.out])
            by_cases hp6 : p < 6
            · obtain ⟨i0, hinf, hz0, hz1, hz2⟩ := info_parts Hz.out.1
              have Hinf := Keep.mk (And.intro hinf (And.intro hz0 (And.intro hz1 hz2)))
              clear hinf hz0 hz1 hz2
              go_wp2_with (first | (go_at_call 47; (with_reducible refine (mark63' len k len p _ (by omega) (by omega) (by omega)).mono ?_); rintro e w2 ⟨rfl, hb⟩; have HT2 := Keep.mk (HT.out.below hb); clear hb) | ((with_reducible refine gate_dst (N := 61) rfl ?_); refine wpList_buildSlice rfl 51 63 1 _ rfl (K63.enc (K63.mrk len k (len + p))).toArray i0 zE Try.underlying51 Hinf.out.1 Hinf.out.2.1 ?h1 ?h2 ?h3 ?_; (case h1 => rw [Hinf.out.2.2.1]; decide); (case h2 => rw [Hinf.out.2.2.1]; decide); (case h3 => (simp only [List.map_toArray, List.map_cons, List.map_nil]; exact fillK K63 _ _ Hinf.out.2.2.1)); (try simp only [Act.put, List.setIfInBounds_toArray, List.set_cons_zero, List.set_cons_succ])) | ((with_reducible refine gate_builtin (b := .append) (xs := #[.tmp 50, .tmp 61]) rfl ?_); at_builtin; refine App.append_keep (w0 := w2) N rfl (.tmp 50) (.tmp 61) 51 63 zE 1025 1032 rfl Try.underlying51 Hz.out.1 Hz.out.2 (by decide) (by decide) (.slice A1 (len + p) c1) (len + p) (K63.flat (marks K63 len k (len + p))) (K63.enc (K63.mrk len k (len + p))) rfl rfl (K63.len _) (K63.one _) ?a2 (Below.refl _ _) ?a3 ?a4 ?_; (case a2 => exact HT2.out.own1 hlt Hl.out hT1.out); (case a3 => exact Nat.le_trans HN.out HT2.out.far.size); (case a4 => omega); intro v1 w1 ho hB hg hat hkk; have HA := Keep.mk (HT2.out.app1 hlt Hl.out hT1.out ho hg hat hkk); clear ho hg hat hkk hB))
              obtain ⟨A2, c2, rfl, e2, hT3⟩ := HA.out
              have HT3 := Keep.mk hT3
              have hT4 := Keep.mk e2
              clear hT3 e2 HA HT2 HT hT1
              go_roundw
              case rel => exact ⟨p + 1, _, A2, c2, by omega, by go_num, by simp [Nat.add_assoc], hT4, HT3⟩
              case measure => simp [intOf]; omega
            · obtain rfl : p = 6 := by omega
              go_wp2_with (first | ((with_reducible refine gate_builtin (b := .append) (xs := #[.tmp 63, .tmp 65]) rfl ?_); at_builtin; refine App.append_keep (w0 := wr) w.heap.size rfl (.tmp 63) (.tmp 65) 67 51 (.slice none 0 0) 1 24 rfl Try.underlying67 info51 rfl (by decide) (by decide) u5 k (encs (fun x : Option Addr × Nat × Nat => Value.slice x.1 x.2.1 x.2.2) ((List.range k).map fun j => hdOf (T j))) [.slice A1 (len + 6) c1] rfl rfl rfl ?a1 HT.out.heads (Below.refl _ _) ?a3 ?a4 ?_; (case a1 => exact (by simp [Value.oneCell'])); (case a3 => exact HT.out.far.size); (case a4 => omega); intro v1 w1 ho hB hg hat hkk; have HA := Keep.mk (HT.out.push1 hlt hT1.out ho hg hat); clear ho hg hat hkk hB))
              clear HT hT1
              go_roundw
              case rel => exact ⟨k + 1, T, by omega, by go_num, HA⟩
              case measure => simp [intOf]; omega
        · have hkn : n = k := by omega
          subst hkn
          clear hk hlt
          obtain ⟨wo3, hwo3⟩ : ∃ wo : World, wo = wr := ⟨_, rfl⟩
          subst hwo3
          go_wp2
          go_loopw [9] (fun v9 w' => ∃ k : Nat, k ≤ n ∧ v9 = .int .i64 k ∧ Keep (Two K63 w w' N g n n 0 ident V T ln u5)) (fun v9 _ => n - (intOf v9).toNat)
          case atStart => exact ⟨0, Nat.zero_le _, rfl, HT⟩
          case round =>
            clear HT
            obtain ⟨k, hk, rfl, HT⟩ := hrel
            by_cases hlt : k < n
            · obtain ⟨bG, cG, bT, cT, rfl, hcG, hcT⟩ := HT.out.third hlt
              have hln := HX.out k hlt
              clear hcG hcT
              have hk0 : (0 : Int) ≤ (k : Int) := Int.natCast_nonneg _
              have hk1 : (k : Int) < (n : Int) := by omega
              obtain ⟨wo4, hwo4⟩ : ∃ wo : World, wo = wr := ⟨_, rfl⟩
              subst hwo4
              go_wp2
              go_loopw [10] (fun v10 w' => ∃ i : Nat, i ≤ ln k + 6 ∧ v10 = .int .i64 i ∧ Keep (Two K63 w w' N g n n 0 ident V T ln (.slice (some ⟨bG, 0, none⟩) n cG))) (fun v10 _ => ln k + 6 - (intOf v10).toNat)
              case atStart => exact ⟨0, Nat.zero_le _, rfl, HT⟩
              case round =>
                clear HT
                obtain ⟨i, hi, rfl, HT⟩ := hrel
                obtain ⟨bG', cG', bT, cT, hGe, hcG, hcT⟩ := HT.out.third hlt
                obtain ⟨rfl, rfl⟩ : bG' = bG ∧ cG' = cG := by
                  simp only [Value.slice.injEq, Option.some.injEq, Addr.mk.injEq] at hGe
                  exact ⟨hGe.1.1.symm, hGe.2.2.symm⟩
                clear hGe
                have hw1 : IntKind.i64.wrap ((k : Int) + 10) = (k : Int) + 10 := IntWalk.i64_in _ (by omega)
                have hi0 : (0 : Int) ≤ (i : Int) := Int.natCast_nonneg _
                by_cases hil : i < ln k + 6
                · have hci0 := hcT i hil
                  have hci := Keep.mk (show wr.rangeAt bT (i * 1025) (K63.enc (K63.mrk (ln k) k i)) from hci0)
                  clear hcT hci0
                  obtain ⟨AV, cV, hV⟩ := HT.out.head hlt
                  have hcv := (HT.out.cell k hlt).trans (by rw [hV])
                  have hcv : wr.cell? ⟨g, k, none⟩ = some (.slice AV (ln k) cV) := hcv
                  by_cases hik : i < ln k
                  · obtain ⟨bV, rfl⟩ : ∃ bV, AV = some ⟨bV, 0, none⟩ := by
                      rcases HT.out.form k hlt with ⟨h1, h2⟩ | ⟨b, c', h1, _⟩
                      · omega
                      · rw [hV] at h1
                        injection h1 with h1 _ _
                        exact ⟨b, h1⟩
                    have hvi := Keep.mk (show wr.rangeAt bV (i * 1025) (K63.enc (K63.mrk (ln k) k i)) from HT.out.read k hlt bV (by rw [hV]; rfl) i hik)
                    clear hV
                    generalize hlk : ln k = lk at *
                    clear hlk
                    have hi1 : (i : Int) < (lk : Int) := by omega
                    have hi2 : (i : Int) < ((lk + 6 : Nat) : Int) := by omega
                    have HS := Keep.mk (And.intro hcv (And.intro hcG (And.intro hci.out hvi.out)))
                    clear hcv hci hvi
                    go_wp2
                    clear hcG
                    refine wp_region_held_drew (S := fun w' => w'.cell? ⟨g, k, none⟩ = some (.slice (some ⟨bV, 0, none⟩) lk cV) ∧ w'.cell? ⟨bG', k, none⟩ = some (.slice (some ⟨bT, 0, none⟩) (lk + 6) cT) ∧ w'.rangeAt bT (i * 1025) (K63.enc (K63.mrk lk k i)) ∧ w'.rangeAt bV (i * 1025) (K63.enc (K63.mrk lk k i))) (by kernel_rfl) ⟨hdr1 HS.out.1, hdr1 HS.out.2.1, hr (Below.refl _ _).drew HS.out.2.2.1, hr (Below.refl _ _).drew HS.out.2.2.2⟩ (fun hHeld => ?_)
                    refine wpAnyH_take (i := 0) (oi := { dst := some 82, op := Op.move (Operand.tmp 5), type := 67, pos := "lists.go:409", after := #[], guard := none }) (v := ?vb0) rfl (by kernel_rfl) (by kernel_rfl) (by kernel_rfl) (fun _ _ _ h => h) (Or.inl ⟨by rfl, ?yb0⟩) (by assumption) ?rb0
                    case yb0 => ((intro w hSw; (try dsimp only at hSw); go_simp) <;> with_reducible rfl)
                    (try simp only [Act.put, List.setIfInBounds_toArray, List.set_cons_zero, List.set_cons_succ])
                    refine wpAnyH_take (i := 1) (oi := { dst := some 83, op := Op.move (Operand.tmp 9), type := 3, pos := "lists.go:409", after := #[], guard := none }) (v := ?vb1) rfl (by kernel_rfl) (by kernel_rfl) (by kernel_rfl) (fun _ _ _ h => h) (Or.inl ⟨by rfl, ?yb1⟩) (by assumption) ?rb1
                    case yb1 => ((intro w hSw; (try dsimp only at hSw); go_simp) <;> with_reducible rfl)
                    (try simp only [Act.put, List.setIfInBounds_toArray, List.set_cons_zero, List.set_cons_succ])
                    refine wpAnyH_take (i := 2) (oi := { dst := some 84, op := Op.indexAddr 67 (Operand.tmp 82) (Operand.tmp 83), type := 0, pos := "lists.go:409", after := #[{ on := 0, ground := Ground.data }, { on := 1, ground := Ground.data }], guard := none }) (v := ?vb2) rfl (by kernel_rfl) (by kernel_rfl) (by kernel_rfl) (fun _ _ _ h => h) (Or.inl ⟨by rfl, ?yb2⟩) (by assumption) ?rb2
                    case yb2 => ((intro w hSw; (try dsimp only at hSw); go_simp) <;> with_reducible rfl)
                    (try simp only [Act.put, List.setIfInBounds_toArray, List.set_cons_zero, List.set_cons_succ])
                    refine wpAnyH_take (i := 3) (oi := { dst := some 85, op := Op.load 51 (Operand.tmp 84), type := 51, pos := "lists.go:409", after := #[{ on := 2, ground := Ground.data }], guard := none }) (v := ?vb3) rfl (by kernel_rfl) (by kernel_rfl) (by kernel_rfl) (fun _ _ _ h => h) (Or.inl ⟨by rfl, ?yb3⟩) (by assumption) ?rb3
                    case yb3 => ((intro w hSw; (try dsimp only at hSw); go_simp) <;> with_reducible rfl)
                    (try simp only [Act.put, List.setIfInBounds_toArray, List.set_cons_zero, List.set_cons_succ])
                    refine wpAnyH_take (i := 4) (oi := { dst := some 86, op := Op.move (Operand.tmp 10), type := 3, pos := "lists.go:409", after := #[], guard := none }) (v := ?vb4) rfl (by kernel_rfl) (by kernel_rfl) (by kernel_rfl) (fun _ _ _ h => h) (Or.inl ⟨by rfl, ?yb4⟩) (by assumption) ?rb4
                    case yb4 => ((intro w hSw; (try dsimp only at hSw); go_simp) <;> with_reducible rfl)
                    (try simp only [Act.put, List.setIfInBounds_toArray, List.set_cons_zero, List.set_cons_succ])
                    refine wpAnyH_take (i := 5) (oi := { dst := some 87, op := Op.indexAddr 51 (Operand.tmp 85) (Operand.tmp 86), type := 0, pos := "lists.go:409", after := #[{ on := 3, ground := Ground.data }, { on := 4, ground := Ground.data }], guard := none }) (v := ?vb5) rfl (by kernel_rfl) (by kernel_rfl) (by kernel_rfl) (fun _ _ _ h => h) (Or.inl ⟨by rfl, ?yb5⟩) (by assumption) ?rb5
                    case yb5 => ((intro w hSw; (try dsimp only at hSw); go_simp) <;> with_reducible rfl)
                    (try simp only [Act.put, List.setIfInBounds_toArray, List.set_cons_zero, List.set_cons_succ])
                    refine wpAnyH_take (i := 6) (oi := { dst := some 88, op := Op.load 63 (Operand.tmp 87), type := 63, pos := "lists.go:409", after := #[{ on := 5, ground := Ground.data }], guard := none }) (v := .agg (K63.enc (K63.mrk lk k i)).toArray) rfl (by kernel_rfl) (by kernel_rfl) (by kernel_rfl) (fun _ _ _ h => h) (yieldsIf_load_mid (by rfl) 63 _ rfl bT (i * 1025) rfl (K63.enc (K63.mrk lk k i)) _ (fun w' hw => hw.2.2.1) Try.underlying63 rfl (by rw [K63.len]; exact Held.size63)) (by assumption) ?_
                    (try simp only [Act.put, List.setIfInBounds_toArray, List.set_cons_zero, List.set_cons_succ])
                    refine wpAnyH_take (i := 7) (oi := { dst := some 89, op := Op.move (Operand.tmp 9), type := 3, pos := "lists.go:409", after := #[], guard := none }) (v := ?vb7) rfl (by kernel_rfl) (by kernel_rfl) (by kernel_rfl) (fun _ _ _ h => h) (Or.inl ⟨by rfl, ?yb7⟩) (by assumption) ?rb7
                    case yb7 => ((intro w hSw; (try dsimp only at hSw); go_simp) <;> with_reducible rfl)
                    (try simp only [Act.put, List.setIfInBounds_toArray, List.set_cons_zero, List.set_cons_succ])
                    refine wpAnyH_take (i := 8) (oi := { dst := some 90, op := Op.binOp BinOp.add 3 (Operand.tmp 89) (Operand.const (Value.int IntKind.i64 10)) 3, type := 3, pos := "lists.go:409", after := #[{ on := 7, ground := Ground.data }], guard := none }) (v := ?vb8) rfl (by kernel_rfl) (by kernel_rfl) (by kernel_rfl) (fun _ _ _ h => h) (Or.inl ⟨by rfl, ?yb8⟩) (by assumption) ?rb8
                    case yb8 => ((intro w hSw; (try dsimp only at hSw); go_simp) <;> with_reducible rfl)
                    (try simp only [Act.put, List.setIfInBounds_toArray, List.set_cons_zero, List.set_cons_succ])
                    refine wpAnyH_take (i := 9) (oi := { dst := some 91, op := Op.move (Operand.tmp 10), type := 3, pos := "lists.go:409", after := #[], guard := none }) (v := ?vb9) rfl (by kernel_rfl) (by kernel_rfl) (by kernel_rfl) (fun _ _ _ h => h) (Or.inl ⟨by rfl, ?yb9⟩) (by assumption) ?rb9
                    case yb9 => ((intro w hSw; (try dsimp only at hSw); go_simp) <;> with_reducible rfl)
                    (try simp only [Act.put, List.setIfInBounds_toArray, List.set_cons_zero, List.set_cons_succ])
                    refine wpAnyH_ready (rs := [10]) (by kernel_rfl) (by simp) ?_
                    refine AllReadyH.cons rfl (fun K hK => ?_) AllReadyH.nil
                    go_simp
                    go_at_call 47
                    (with_reducible refine (mark63 lk k i _ (by omega) (by omega)).mono ?_)
                    rintro e w2 ⟨rfl, hb⟩
                    go_wp2_with fail
                    refine hK.out _ _ ⟨hc hb (hdr1 HS.out.1), hc hb (hdr1 HS.out.2.1), hr hb (hr (Below.refl _ _).drew HS.out.2.2.1), hr hb (hr (Below.refl _ _).drew HS.out.2.2.2)⟩ (fun hHeld2 => ?_)
                    clear hK K hHeld
                    (try simp only [Act.put, List.setIfInBounds_toArray, List.set_cons_zero, List.set_cons_succ])
                    refine wpAnyH_take (i := 11) (oi := { dst := some 93, op := Op.binOp BinOp.neq 63 (Operand.tmp 88) (Operand.tmp 92) 63, type := 4, pos := "lists.go:409", after := #[{ on := 6, ground := Ground.data }, { on := 10, ground := Ground.data }], guard := none }) (v := .bool false) rfl (by kernel_rfl) (by kernel_rfl) (by kernel_rfl) (fun _ _ _ h => h) (Or.inl ⟨by rfl, fun w' _ => neq63s rfl (by rfl) (by rfl) w'⟩) (by assumption) ?_
                    (try simp only [Act.put, List.setIfInBounds_toArray, List.set_cons_zero, List.set_cons_succ])
                    refine wpAnyH_take (i := 12) (oi := { dst := some 94, op := Op.move (Operand.tmp 93), type := 4, pos := "lists.go:409", after := #[{ on := 11, ground := Ground.data }, { on := 10, ground := Ground.chain }], guard := none }) (v := ?vb12) rfl (by kernel_rfl) (by kernel_rfl) (by kernel_rfl) (fun _ _ _ h => h) (Or.inl ⟨by rfl, ?yb12⟩) (by assumption) ?rb12
                    case yb12 => ((intro w hSw; (try dsimp only at hSw); go_simp) <;> with_reducible rfl)
                    (try simp only [Act.put, List.setIfInBounds_toArray, List.set_cons_zero, List.set_cons_succ])
                    refine wpAnyH_take (i := 13) (oi := { dst := some 95, op := Op.move (Operand.tmp 10), type := 3, pos := "lists.go:409", after := #[{ on := 12, ground := Ground.guard }], guard := some (12, false) }) (v := ?vb13) rfl (by kernel_rfl) (by kernel_rfl) (by kernel_rfl) (fun _ _ _ h => h) (Or.inl ⟨by rfl, ?yb13⟩) (by assumption) ?rb13
                    case yb13 => ((intro w hSw; (try dsimp only at hSw); go_simp) <;> with_reducible rfl)
                    (try simp only [Act.put, List.setIfInBounds_toArray, List.set_cons_zero, List.set_cons_succ])
                    refine wpAnyH_take (i := 14) (oi := { dst := some 96, op := Op.move (Operand.tmp 0), type := 67, pos := "lists.go:409", after := #[{ on := 12, ground := Ground.guard }], guard := some (12, false) }) (v := ?vb14) rfl (by kernel_rfl) (by kernel_rfl) (by kernel_rfl) (fun _ _ _ h => h) (Or.inl ⟨by rfl, ?yb14⟩) (by assumption) ?rb14
                    case yb14 => ((intro w hSw; (try dsimp only at hSw); go_simp) <;> with_reducible rfl)
                    (try simp only [Act.put, List.setIfInBounds_toArray, List.set_cons_zero, List.set_cons_succ])
                    refine wpAnyH_take (i := 15) (oi := { dst := some 97, op := Op.move (Operand.tmp 9), type := 3, pos := "lists.go:409", after := #[{ on := 12, ground := Ground.guard }], guard := some (12, false) }) (v := ?vb15) rfl (by kernel_rfl) (by kernel_rfl) (by kernel_rfl) (fun _ _ _ h => h) (Or.inl ⟨by rfl, ?yb15⟩) (by assumption) ?rb15
                    case yb15 => ((intro w hSw; (try dsimp only at hSw); go_simp) <;> with_reducible rfl)
                    (try simp only [Act.put, List.setIfInBounds_toArray, List.set_cons_zero, List.set_cons_succ])
                    refine wpAnyH_take (i := 16) (oi := { dst := some 98, op := Op.indexAddr 67 (Operand.tmp 96) (Operand.tmp 97), type := 0, pos := "lists.go:409", after := #[{ on := 14, ground := Ground.data }, { on := 15, ground := Ground.data }, { on := 12, ground := Ground.guard }], guard := some (12, false) }) (v := ?vb16) rfl (by kernel_rfl) (by kernel_rfl) (by kernel_rfl) (fun _ _ _ h => h) (Or.inl ⟨by rfl, ?yb16⟩) (by assumption) ?rb16
                    case yb16 => ((intro w hSw; (try dsimp only at hSw); go_simp) <;> with_reducible rfl)
                    (try simp only [Act.put, List.setIfInBounds_toArray, List.set_cons_zero, List.set_cons_succ])
                    refine wpAnyH_take (i := 17) (oi := { dst := some 99, op := Op.load 51 (Operand.tmp 98), type := 51, pos := "lists.go:409", after := #[{ on := 16, ground := Ground.data }, { on := 12, ground := Ground.guard }], guard := some (12, false) }) (v := ?vb17) rfl (by kernel_rfl) (by kernel_rfl) (by kernel_rfl) (fun _ _ _ h => h) (Or.inl ⟨by rfl, ?yb17⟩) (by assumption) ?rb17
                    case yb17 => ((intro w hSw; (try dsimp only at hSw); go_simp) <;> with_reducible rfl)
                    (try simp only [Act.put, List.setIfInBounds_toArray, List.set_cons_zero, List.set_cons_succ])
                    refine wpAnyH_take (i := 18) (oi := { dst := some 100, op := Op.call { callee := Callee.builtin Builtin.len, args := #[Operand.tmp 99], argTypes := #[51] }, type := 3, pos := "lists.go:409", after := #[{ on := 17, ground := Ground.data }, { on := 12, ground := Ground.guard }], guard := some (12, false) }) (v := ?vb18) rfl (by kernel_rfl) (by kernel_rfl) (by kernel_rfl) (fun _ _ _ h => h) (Or.inl ⟨by rfl, ?yb18⟩) (by assumption) ?rb18
                    case yb18 => ((intro w hSw; (try dsimp only at hSw); go_simp) <;> with_reducible rfl)
                    (try simp only [Act.put, List.setIfInBounds_toArray, List.set_cons_zero, List.set_cons_succ])
                    refine wpAnyH_take (i := 19) (oi := { dst := some 101, op := Op.binOp BinOp.lss 3 (Operand.tmp 95) (Operand.tmp 100) 3, type := 4, pos := "lists.go:409", after := #[{ on := 13, ground := Ground.data }, { on := 18, ground := Ground.data }, { on := 12, ground := Ground.guard }], guard := some (12, false) }) (v := ?vb19) rfl (by kernel_rfl) (by kernel_rfl) (by kernel_rfl) (fun _ _ _ h => h) (Or.inl ⟨by rfl, ?yb19⟩) (by assumption) ?rb19
                    case yb19 => ((intro w hSw; (try dsimp only at hSw); go_simp) <;> with_reducible rfl)
                    (try simp only [Act.put, List.setIfInBounds_toArray, List.set_cons_zero, List.set_cons_succ])
                    refine wpAnyH_take (i := 20) (oi := { dst := some 102, op := Op.move (Operand.tmp 101), type := 4, pos := "lists.go:409", after := #[{ on := 19, ground := Ground.data }, { on := 12, ground := Ground.chain }, { on := 12, ground := Ground.guard }], guard := some (12, false) }) (v := ?vb20) rfl (by kernel_rfl) (by kernel_rfl) (by kernel_rfl) (fun _ _ _ h => h) (Or.inl ⟨by rfl, ?yb20⟩) (by assumption) ?rb20
                    case yb20 => ((intro w hSw; (try dsimp only at hSw); go_simp) <;> with_reducible rfl)
                    (try simp only [Act.put, List.setIfInBounds_toArray, List.set_cons_zero, List.set_cons_succ])
                    refine wpAnyH_take (i := 21) (oi := { dst := some 103, op := Op.move (Operand.tmp 0), type := 67, pos := "lists.go:409", after := #[{ on := 20, ground := Ground.guard }], guard := some (20, true) }) (v := ?vb21) rfl (by kernel_rfl) (by kernel_rfl) (by kernel_rfl) (fun _ _ _ h => h) (Or.inl ⟨by rfl, ?yb21⟩) (by assumption) ?rb21
                    case yb21 => ((intro w hSw; (try dsimp only at hSw); go_simp) <;> with_reducible rfl)
                    (try simp only [Act.put, List.setIfInBounds_toArray, List.set_cons_zero, List.set_cons_succ])
                    refine wpAnyH_take (i := 22) (oi := { dst := some 104, op := Op.move (Operand.tmp 9), type := 3, pos := "lists.go:409", after := #[{ on := 20, ground := Ground.guard }], guard := some (20, true) }) (v := ?vb22) rfl (by kernel_rfl) (by kernel_rfl) (by kernel_rfl) (fun _ _ _ h => h) (Or.inl ⟨by rfl, ?yb22⟩) (by assumption) ?rb22
                    case yb22 => ((intro w hSw; (try dsimp only at hSw); go_simp) <;> with_reducible rfl)
                    (try simp only [Act.put, List.setIfInBounds_toArray, List.set_cons_zero, List.set_cons_succ])
                    refine wpAnyH_take (i := 23) (oi := { dst := some 105, op := Op.indexAddr 67 (Operand.tmp 103) (Operand.tmp 104), type := 0, pos := "lists.go:409", after := #[{ on := 21, ground := Ground.data }, { on := 22, ground := Ground.data }, { on := 20, ground := Ground.guard }], guard := some (20, true) }) (v := ?vb23) rfl (by kernel_rfl) (by kernel_rfl) (by kernel_rfl) (fun _ _ _ h => h) (Or.inl ⟨by rfl, ?yb23⟩) (by assumption) ?rb23
                    case yb23 => ((intro w hSw; (try dsimp only at hSw); go_simp) <;> with_reducible rfl)
                    (try simp only [Act.put, List.setIfInBounds_toArray, List.set_cons_zero, List.set_cons_succ])
                    refine wpAnyH_take (i := 24) (oi := { dst := some 106, op := Op.load 51 (Operand.tmp 105), type := 51, pos := "lists.go:409", after := #[{ on := 23, ground := Ground.data }, { on := 20, ground := Ground.guard }], guard := some (20, true) }) (v := ?vb24) rfl (by kernel_rfl) (by kernel_rfl) (by kernel_rfl) (fun _ _ _ h => h) (Or.inl ⟨by rfl, ?yb24⟩) (by assumption) ?rb24
                    case yb24 => ((intro w hSw; (try dsimp only at hSw); go_simp) <;> with_reducible rfl)
                    (try simp only [Act.put, List.setIfInBounds_toArray, List.set_cons_zero, List.set_cons_succ])
                    refine wpAnyH_take (i := 25) (oi := { dst := some 107, op := Op.move (Operand.tmp 10), type := 3, pos := "lists.go:409", after := #[{ on := 20, ground := Ground.guard }], guard := some (20, true) }) (v := ?vb25) rfl (by kernel_rfl) (by kernel_rfl) (by kernel_rfl) (fun _ _ _ h => h) (Or.inl ⟨by rfl, ?yb25⟩) (by assumption) ?rb25
                    case yb25 => ((intro w hSw; (try dsimp only at hSw); go_simp) <;> with_reducible rfl)
                    (try simp only [Act.put, List.setIfInBounds_toArray, List.set_cons_zero, List.set_cons_succ])
                    refine wpAnyH_take (i := 26) (oi := { dst := some 108, op := Op.indexAddr 51 (Operand.tmp 106) (Operand.tmp 107), type := 0, pos := "lists.go:409", after := #[{ on := 24, ground := Ground.data }, { on := 25, ground := Ground.data }, { on := 20, ground := Ground.guard }], guard := some (20, true) }) (v := ?vb26) rfl (by kernel_rfl) (by kernel_rfl) (by kernel_rfl) (fun _ _ _ h => h) (Or.inl ⟨by rfl, ?yb26⟩) (by assumption) ?rb26
                    case yb26 => ((intro w hSw; (try dsimp only at hSw); go_simp) <;> with_reducible rfl)
                    (try simp only [Act.put, List.setIfInBounds_toArray, List.set_cons_zero, List.set_cons_succ])
                    refine wpAnyH_take (i := 27) (oi := { dst := some 109, op := Op.load 63 (Operand.tmp 108), type := 63, pos := "lists.go:409", after := #[{ on := 26, ground := Ground.data }, { on := 20, ground := Ground.guard }], guard := some (20, true) }) (v := .agg (K63.enc (K63.mrk lk k i)).toArray) rfl (by kernel_rfl) (by kernel_rfl) (by kernel_rfl) (fun _ _ _ h => h) (yieldsIf_load_mid (by rfl) 63 _ rfl bV (i * 1025) rfl (K63.enc (K63.mrk lk k i)) _ (fun w' hw => hw.2.2.2) Try.underlying63 rfl (by rw [K63.len]; exact Held.size63)) (by assumption) ?_
                    (try simp only [Act.put, List.setIfInBounds_toArray, List.set_cons_zero, List.set_cons_succ])
                    refine wpAnyH_take (i := 28) (oi := { dst := some 110, op := Op.move (Operand.tmp 5), type := 67, pos := "lists.go:409", after := #[{ on := 20, ground := Ground.guard }], guard := some (20, true) }) (v := ?vb28) rfl (by kernel_rfl) (by kernel_rfl) (by kernel_rfl) (fun _ _ _ h => h) (Or.inl ⟨by rfl, ?yb28⟩) (by assumption) ?rb28
                    case yb28 => ((intro w hSw; (try dsimp only at hSw); go_simp) <;> with_reducible rfl)
                    (try simp only [Act.put, List.setIfInBounds_toArray, List.set_cons_zero, List.set_cons_succ])
                    refine wpAnyH_take (i := 29) (oi := { dst := some 111, op := Op.move (Operand.tmp 9), type := 3, pos := "lists.go:409", after := #[{ on := 20, ground := Ground.guard }], guard := some (20, true) }) (v := ?vb29) rfl (by kernel_rfl) (by kernel_rfl) (by kernel_rfl) (fun _ _ _ h => h) (Or.inl ⟨by rfl, ?yb29⟩) (by assumption) ?rb29
                    case yb29 => ((intro w hSw; (try dsimp only at hSw); go_simp) <;> with_reducible rfl)
                    (try simp only [Act.put, List.setIfInBounds_toArray, List.set_cons_zero, List.set_cons_succ])
                    refine wpAnyH_take (i := 30) (oi := { dst := some 112, op := Op.indexAddr 67 (Operand.tmp 110) (Operand.tmp 111), type := 0, pos := "lists.go:409", after := #[{ on := 28, ground := Ground.data }, { on := 29, ground := Ground.data }, { on := 20, ground := Ground.guard }], guard := some (20, true) }) (v := ?vb30) rfl (by kernel_rfl) (by kernel_rfl) (by kernel_rfl) (fun _ _ _ h => h) (Or.inl ⟨by rfl, ?yb30⟩) (by assumption) ?rb30
                    case yb30 => ((intro w hSw; (try dsimp only at hSw); go_simp) <;> with_reducible rfl)
                    (try simp only [Act.put, List.setIfInBounds_toArray, List.set_cons_zero, List.set_cons_succ])
                    refine wpAnyH_take (i := 31) (oi := { dst := some 113, op := Op.load 51 (Operand.tmp 112), type := 51, pos := "lists.go:409", after := #[{ on := 30, ground := Ground.data }, { on := 20, ground := Ground.guard }], guard := some (20, true) }) (v := ?vb31) rfl (by kernel_rfl) (by kernel_rfl) (by kernel_rfl) (fun _ _ _ h => h) (Or.inl ⟨by rfl, ?yb31⟩) (by assumption) ?rb31
                    case yb31 => ((intro w hSw; (try dsimp only at hSw); go_simp) <;> with_reducible rfl)
                    (try simp only [Act.put, List.setIfInBounds_toArray, List.set_cons_zero, List.set_cons_succ])
                    refine wpAnyH_take (i := 32) (oi := { dst := some 114, op := Op.move (Operand.tmp 10), type := 3, pos := "lists.go:409", after := #[{ on := 20, ground := Ground.guard }], guard := some (20, true) }) (v := ?vb32) rfl (by kernel_rfl) (by kernel_rfl) (by kernel_rfl) (fun _ _ _ h => h) (Or.inl ⟨by rfl, ?yb32⟩) (by assumption) ?rb32
                    case yb32 => ((intro w hSw; (try dsimp only at hSw); go_simp) <;> with_reducible rfl)
                    (try simp only [Act.put, List.setIfInBounds_toArray, List.set_cons_zero, List.set_cons_succ])
                    refine wpAnyH_take (i := 33) (oi := { dst := some 115, op := Op.indexAddr 51 (Operand.tmp 113) (Operand.tmp 114), type := 0, pos := "lists.go:409", after := #[{ on := 31, ground := Ground.data }, { on := 32, ground := Ground.data }, { on := 20, ground := Ground.guard }], guard := some (20, true) }) (v := ?vb33) rfl (by kernel_rfl) (by kernel_rfl) (by kernel_rfl) (fun _ _ _ h => h) (Or.inl ⟨by rfl, ?yb33⟩) (by assumption) ?rb33
                    case yb33 => ((intro w hSw; (try dsimp only at hSw); go_simp) <;> with_reducible rfl)
                    (try simp only [Act.put, List.setIfInBounds_toArray, List.set_cons_zero, List.set_cons_succ])
                    refine wpAnyH_take (i := 34) (oi := { dst := some 116, op := Op.load 63 (Operand.tmp 115), type := 63, pos := "lists.go:409", after := #[{ on := 33, ground := Ground.data }, { on := 20, ground := Ground.guard }], guard := some (20, true) }) (v := .agg (K63.enc (K63.mrk lk k i)).toArray) rfl (by kernel_rfl) (by kernel_rfl) (by kernel_rfl) (fun _ _ _ h => h) (yieldsIf_load_mid (by rfl) 63 _ rfl bT (i * 1025) rfl (K63.enc (K63.mrk lk k i)) _ (fun w' hw => hw.2.2.1) Try.underlying63 rfl (by rw [K63.len]; exact Held.size63)) (by assumption) ?_
                    (try simp only [Act.put, List.setIfInBounds_toArray, List.set_cons_zero, List.set_cons_succ])
                    refine wpAnyH_take (i := 35) (oi := { dst := some 117, op := Op.binOp BinOp.neq 63 (Operand.tmp 109) (Operand.tmp 116) 63, type := 4, pos := "lists.go:409", after := #[{ on := 27, ground := Ground.data }, { on := 34, ground := Ground.data }, { on := 20, ground := Ground.guard }], guard := some (20, true) }) (v := .bool false) rfl (by kernel_rfl) (by kernel_rfl) (by kernel_rfl) (fun _ _ _ h => h) (Or.inl ⟨by rfl, fun w' _ => neq63s rfl (by rfl) (by rfl) w'⟩) (by assumption) ?_
                    (try simp only [Act.put, List.setIfInBounds_toArray, List.set_cons_zero, List.set_cons_succ])
                    refine wpAnyH_take (i := 36) (oi := { dst := some 118, op := Op.pick (Operand.tmp 102) (Operand.tmp 117) (Operand.const (Value.bool false)), type := 4, pos := "lists.go:409", after := #[{ on := 20, ground := Ground.data }, { on := 35, ground := Ground.data }, { on := 12, ground := Ground.guard }], guard := some (12, false) }) (v := ?vb36) rfl (by kernel_rfl) (by kernel_rfl) (by kernel_rfl) (fun _ _ _ h => h) (Or.inl ⟨by rfl, ?yb36⟩) (by assumption) ?rb36
                    case yb36 => ((intro w hSw; (try dsimp only at hSw); go_simp) <;> with_reducible rfl)
                    (try simp only [Act.put, List.setIfInBounds_toArray, List.set_cons_zero, List.set_cons_succ])
                    refine wpAnyH_take (i := 37) (oi := { dst := some 119, op := Op.pick (Operand.tmp 94) (Operand.const (Value.bool true)) (Operand.tmp 118), type := 4, pos := "lists.go:409", after := #[{ on := 12, ground := Ground.data }, { on := 36, ground := Ground.data }], guard := none }) (v := ?vb37) rfl (by kernel_rfl) (by kernel_rfl) (by kernel_rfl) (fun _ _ _ h => h) (Or.inl ⟨by rfl, ?yb37⟩) (by assumption) ?rb37
                    case yb37 => ((intro w hSw; (try dsimp only at hSw); go_simp) <;> with_reducible rfl)
                    (try simp only [Act.put, List.setIfInBounds_toArray, List.set_cons_zero, List.set_cons_succ])
                    refine wpAnyH_done (by kernel_rfl) ?_ _
                    have HT9 := Keep.mk (HT.out.drew.below hb)
                    clear HT hb HS hHeld2
                    go_wp2
                    go_roundw
                    case rel => exact ⟨i + 1, by omega, by go_num, HT9⟩
                    case measure => simp [intOf]; omega
                  · clear hV
                    generalize hlk : ln k = lk at *
                    clear hlk
                    have hi1 : ¬ (i : Int) < (lk : Int) := by omega
                    have hi1d : decide ((i : Int) < (lk : Int)) = false := decide_eq_false hi1
                    have hi2 : (i : Int) < ((lk + 6 : Nat) : Int) := by omega
                    have HS := Keep.mk (And.intro hcv (And.intro hcG hci.out))
                    clear hcv hci
                    go_wp2
                    clear hcG
                    refine wp_region_held_drew (S := fun w' => w'.cell? ⟨g, k, none⟩ = some (.slice AV lk cV) ∧ w'.cell? ⟨bG', k, none⟩ = some (.slice (some ⟨bT, 0, none⟩) (lk + 6) cT) ∧ w'.rangeAt bT (i * 1025) (K63.enc (K63.mrk lk k i))) (by kernel_rfl) ⟨hdr1 HS.out.1, hdr1 HS.out.2.1, hr (Below.refl _ _).drew HS.out.2.2⟩ (fun hHeld => ?_)
                    refine wpAnyH_take (i := 0) (oi := { dst := some 82, op := Op.move (Operand.tmp 5), type := 67, pos := "lists.go:409", after := #[], guard := none }) (v := ?vc0) rfl (by kernel_rfl) (by kernel_rfl) (by kernel_rfl) (fun _ _ _ h => h) (Or.inl ⟨by rfl, ?yc0⟩) (by assumption) ?rc0
                    case yc0 => ((intro w hSw; (try dsimp only at hSw); go_simp) <;> with_reducible rfl)
                    (try simp only [Act.put, List.setIfInBounds_toArray, List.set_cons_zero, List.set_cons_succ])
                    refine wpAnyH_take (i := 1) (oi := { dst := some 83, op := Op.move (Operand.tmp 9), type := 3, pos := "lists.go:409", after := #[], guard := none }) (v := ?vc1) rfl (by kernel_rfl) (by kernel_rfl) (by kernel_rfl) (fun _ _ _ h => h) (Or.inl ⟨by rfl, ?yc1⟩) (by assumption) ?rc1
                    case yc1 => ((intro w hSw; (try dsimp only at hSw); go_simp) <;> with_reducible rfl)
                    (try simp only [Act.put, List.setIfInBounds_toArray, List.set_cons_zero, List.set_cons_succ])
                    refine wpAnyH_take (i := 2) (oi := { dst := some 84, op := Op.indexAddr 67 (Operand.tmp 82) (Operand.tmp 83), type := 0, pos := "lists.go:409", after := #[{ on := 0, ground := Ground.data }, { on := 1, ground := Ground.data }], guard := none }) (v := ?vc2) rfl (by kernel_rfl) (by kernel_rfl) (by kernel_rfl) (fun _ _ _ h => h) (Or.inl ⟨by rfl, ?yc2⟩) (by assumption) ?rc2
                    case yc2 => ((intro w hSw; (try dsimp only at hSw); go_simp) <;> with_reducible rfl)
                    (try simp only [Act.put, List.setIfInBounds_toArray, List.set_cons_zero, List.set_cons_succ])
                    refine wpAnyH_take (i := 3) (oi := { dst := some 85, op := Op.load 51 (Operand.tmp 84), type := 51, pos := "lists.go:409", after := #[{ on := 2, ground := Ground.data }], guard := none }) (v := ?vc3) rfl (by kernel_rfl) (by kernel_rfl) (by kernel_rfl) (fun _ _ _ h => h) (Or.inl ⟨by rfl, ?yc3⟩) (by assumption) ?rc3
                    case yc3 => ((intro w hSw; (try dsimp only at hSw); go_simp) <;> with_reducible rfl)
                    (try simp only [Act.put, List.setIfInBounds_toArray, List.set_cons_zero, List.set_cons_succ])
                    refine wpAnyH_take (i := 4) (oi := { dst := some 86, op := Op.move (Operand.tmp 10), type := 3, pos := "lists.go:409", after := #[], guard := none }) (v := ?vc4) rfl (by kernel_rfl) (by kernel_rfl) (by kernel_rfl) (fun _ _ _ h => h) (Or.inl ⟨by rfl, ?yc4⟩) (by assumption) ?rc4
                    case yc4 => ((intro w hSw; (try dsimp only at hSw); go_simp) <;> with_reducible rfl)
                    (try simp only [Act.put, List.setIfInBounds_toArray, List.set_cons_zero, List.set_cons_succ])
                    refine wpAnyH_take (i := 5) (oi := { dst := some 87, op := Op.indexAddr 51 (Operand.tmp 85) (Operand.tmp 86), type := 0, pos := "lists.go:409", after := #[{ on := 3, ground := Ground.data }, { on := 4, ground := Ground.data }], guard := none }) (v := ?vc5) rfl (by kernel_rfl) (by kernel_rfl) (by kernel_rfl) (fun _ _ _ h => h) (Or.inl ⟨by rfl, ?yc5⟩) (by assumption) ?rc5
                    case yc5 => ((intro w hSw; (try dsimp only at hSw); go_simp) <;> with_reducible rfl)
                    (try simp only [Act.put, List.setIfInBounds_toArray, List.set_cons_zero, List.set_cons_succ])
                    refine wpAnyH_take (i := 6) (oi := { dst := some 88, op := Op.load 63 (Operand.tmp 87), type := 63, pos := "lists.go:409", after := #[{ on := 5, ground := Ground.data }], guard := none }) (v := .agg (K63.enc (K63.mrk lk k i)).toArray) rfl (by kernel_rfl) (by kernel_rfl) (by kernel_rfl) (fun _ _ _ h => h) (yieldsIf_load_mid (by rfl) 63 _ rfl bT (i * 1025) rfl (K63.enc (K63.mrk lk k i)) _ (fun w' hw => hw.2.2) Try.underlying63 rfl (by rw [K63.len]; exact Held.size63)) (by assumption) ?_
                    (try simp only [Act.put, List.setIfInBounds_toArray, List.set_cons_zero, List.set_cons_succ])
                    refine wpAnyH_take (i := 7) (oi := { dst := some 89, op := Op.move (Operand.tmp 9), type := 3, pos := "lists.go:409", after := #[], guard := none }) (v := ?vc7) rfl (by kernel_rfl) (by kernel_rfl) (by kernel_rfl) (fun _ _ _ h => h) (Or.inl ⟨by rfl, ?yc7⟩) (by assumption) ?rc7
                    case yc7 => ((intro w hSw; (try dsimp only at hSw); go_simp) <;> with_reducible rfl)
                    (try simp only [Act.put, List.setIfInBounds_toArray, List.set_cons_zero, List.set_cons_succ])
                    refine wpAnyH_take (i := 8) (oi := { dst := some 90, op := Op.binOp BinOp.add 3 (Operand.tmp 89) (Operand.const (Value.int IntKind.i64 10)) 3, type := 3, pos := "lists.go:409", after := #[{ on := 7, ground := Ground.data }], guard := none }) (v := ?vc8) rfl (by kernel_rfl) (by kernel_rfl) (by kernel_rfl) (fun _ _ _ h => h) (Or.inl ⟨by rfl, ?yc8⟩) (by assumption) ?rc8
                    case yc8 => ((intro w hSw; (try dsimp only at hSw); go_simp) <;> with_reducible rfl)
                    (try simp only [Act.put, List.setIfInBounds_toArray, List.set_cons_zero, List.set_cons_succ])
                    refine wpAnyH_take (i := 9) (oi := { dst := some 91, op := Op.move (Operand.tmp 10), type := 3, pos := "lists.go:409", after := #[], guard := none }) (v := ?vc9) rfl (by kernel_rfl) (by kernel_rfl) (by kernel_rfl) (fun _ _ _ h => h) (Or.inl ⟨by rfl, ?yc9⟩) (by assumption) ?rc9
                    case yc9 => ((intro w hSw; (try dsimp only at hSw); go_simp) <;> with_reducible rfl)
                    (try simp only [Act.put, List.setIfInBounds_toArray, List.set_cons_zero, List.set_cons_succ])
                    refine wpAnyH_ready (rs := [10]) (by kernel_rfl) (by simp) ?_
                    refine AllReadyH.cons rfl (fun K hK => ?_) AllReadyH.nil
                    go_simp
                    go_at_call 47
                    (with_reducible refine (mark63 lk k i _ (by omega) (by omega)).mono ?_)
                    rintro e w2 ⟨rfl, hb⟩
                    go_wp2_with fail
                    refine hK.out _ _ ⟨hc hb (hdr1 HS.out.1), hc hb (hdr1 HS.out.2.1), hr hb (hr (Below.refl _ _).drew HS.out.2.2)⟩ (fun hHeld2 => ?_)
                    clear hK K hHeld
                    (try simp only [Act.put, List.setIfInBounds_toArray, List.set_cons_zero, List.set_cons_succ])
                    refine wpAnyH_take (i := 11) (oi := { dst := some 93, op := Op.binOp BinOp.neq 63 (Operand.tmp 88) (Operand.tmp 92) 63, type := 4, pos := "lists.go:409", after := #[{ on := 6, ground := Ground.data }, { on := 10, ground := Ground.data }], guard := none }) (v := .bool false) rfl (by kernel_rfl) (by kernel_rfl) (by kernel_rfl) (fun _ _ _ h => h) (Or.inl ⟨by rfl, fun w' _ => neq63s rfl (by rfl) (by rfl) w'⟩) (by assumption) ?_
                    (try simp only [Act.put, List.setIfInBounds_toArray, List.set_cons_zero, List.set_cons_succ])
                    refine wpAnyH_take (i := 12) (oi := { dst := some 94, op := Op.move (Operand.tmp 93), type := 4, pos := "lists.go:409", after := #[{ on := 11, ground := Ground.data }, { on := 10, ground := Ground.chain }], guard := none }) (v := ?vc12) rfl (by kernel_rfl) (by kernel_rfl) (by kernel_rfl) (fun _ _ _ h => h) (Or.inl ⟨by rfl, ?yc12⟩) (by assumption) ?rc12
                    case yc12 => ((intro w hSw; (try dsimp only at hSw); go_simp) <;> with_reducible rfl)
                    (try simp only [Act.put, List.setIfInBounds_toArray, List.set_cons_zero, List.set_cons_succ])
                    refine wpAnyH_take (i := 13) (oi := { dst := some 95, op := Op.move (Operand.tmp 10), type := 3, pos := "lists.go:409", after := #[{ on := 12, ground := Ground.guard }], guard := some (12, false) }) (v := ?vc13) rfl (by kernel_rfl) (by kernel_rfl) (by kernel_rfl) (fun _ _ _ h => h) (Or.inl ⟨by rfl, ?yc13⟩) (by assumption) ?rc13
                    case yc13 => ((intro w hSw; (try dsimp only at hSw); go_simp) <;> with_reducible rfl)
                    (try simp only [Act.put, List.setIfInBounds_toArray, List.set_cons_zero, List.set_cons_succ])
                    refine wpAnyH_take (i := 14) (oi := { dst := some 96, op := Op.move (Operand.tmp 0), type := 67, pos := "lists.go:409", after := #[{ on := 12, ground := Ground.guard }], guard := some (12, false) }) (v := ?vc14) rfl (by kernel_rfl) (by kernel_rfl) (by kernel_rfl) (fun _ _ _ h => h) (Or.inl ⟨by rfl, ?yc14⟩) (by assumption) ?rc14
                    case yc14 => ((intro w hSw; (try dsimp only at hSw); go_simp) <;> with_reducible rfl)
                    (try simp only [Act.put, List.setIfInBounds_toArray, List.set_cons_zero, List.set_cons_succ])
                    refine wpAnyH_take (i := 15) (oi := { dst := some 97, op := Op.move (Operand.tmp 9), type := 3, pos := "lists.go:409", after := #[{ on := 12, ground := Ground.guard }], guard := some (12, false) }) (v := ?vc15) rfl (by kernel_rfl) (by kernel_rfl) (by kernel_rfl) (fun _ _ _ h => h) (Or.inl ⟨by rfl, ?yc15⟩) (by assumption) ?rc15
                    case yc15 => ((intro w hSw; (try dsimp only at hSw); go_simp) <;> with_reducible rfl)
                    (try simp only [Act.put, List.setIfInBounds_toArray, List.set_cons_zero, List.set_cons_succ])
                    refine wpAnyH_take (i := 16) (oi := { dst := some 98, op := Op.indexAddr 67 (Operand.tmp 96) (Operand.tmp 97), type := 0, pos := "lists.go:409", after := #[{ on := 14, ground := Ground.data }, { on := 15, ground := Ground.data }, { on := 12, ground := Ground.guard }], guard := some (12, false) }) (v := ?vc16) rfl (by kernel_rfl) (by kernel_rfl) (by kernel_rfl) (fun _ _ _ h => h) (Or.inl ⟨by rfl, ?yc16⟩) (by assumption) ?rc16
                    case yc16 => ((intro w hSw; (try dsimp only at hSw); go_simp) <;> with_reducible rfl)
                    (try simp only [Act.put, List.setIfInBounds_toArray, List.set_cons_zero, List.set_cons_succ])
                    refine wpAnyH_take (i := 17) (oi := { dst := some 99, op := Op.load 51 (Operand.tmp 98), type := 51, pos := "lists.go:409", after := #[{ on := 16, ground := Ground.data }, { on := 12, ground := Ground.guard }], guard := some (12, false) }) (v := ?vc17) rfl (by kernel_rfl) (by kernel_rfl) (by kernel_rfl) (fun _ _ _ h => h) (Or.inl ⟨by rfl, ?yc17⟩) (by assumption) ?rc17
                    case yc17 => ((intro w hSw; (try dsimp only at hSw); go_simp) <;> with_reducible rfl)
                    (try simp only [Act.put, List.setIfInBounds_toArray, List.set_cons_zero, List.set_cons_succ])
                    refine wpAnyH_take (i := 18) (oi := { dst := some 100, op := Op.call { callee := Callee.builtin Builtin.len, args := #[Operand.tmp 99], argTypes := #[51] }, type := 3, pos := "lists.go:409", after := #[{ on := 17, ground := Ground.data }, { on := 12, ground := Ground.guard }], guard := some (12, false) }) (v := ?vc18) rfl (by kernel_rfl) (by kernel_rfl) (by kernel_rfl) (fun _ _ _ h => h) (Or.inl ⟨by rfl, ?yc18⟩) (by assumption) ?rc18
                    case yc18 => ((intro w hSw; (try dsimp only at hSw); go_simp) <;> with_reducible rfl)
                    (try simp only [Act.put, List.setIfInBounds_toArray, List.set_cons_zero, List.set_cons_succ])
                    refine wpAnyH_take (i := 19) (oi := { dst := some 101, op := Op.binOp BinOp.lss 3 (Operand.tmp 95) (Operand.tmp 100) 3, type := 4, pos := "lists.go:409", after := #[{ on := 13, ground := Ground.data }, { on := 18, ground := Ground.data }, { on := 12, ground := Ground.guard }], guard := some (12, false) }) (v := ?vc19) rfl (by kernel_rfl) (by kernel_rfl) (by kernel_rfl) (fun _ _ _ h => h) (Or.inl ⟨by rfl, ?yc19⟩) (by assumption) ?rc19
                    case yc19 => ((intro w hSw; (try dsimp only at hSw); go_simp) <;> with_reducible rfl)
                    (try simp only [Act.put, List.setIfInBounds_toArray, List.set_cons_zero, List.set_cons_succ])
                    refine wpAnyH_take (i := 20) (oi := { dst := some 102, op := Op.move (Operand.tmp 101), type := 4, pos := "lists.go:409", after := #[{ on := 19, ground := Ground.data }, { on := 12, ground := Ground.chain }, { on := 12, ground := Ground.guard }], guard := some (12, false) }) (v := ?vc20) rfl (by kernel_rfl) (by kernel_rfl) (by kernel_rfl) (fun _ _ _ h => h) (Or.inl ⟨by rfl, ?yc20⟩) (by assumption) ?rc20
                    case yc20 => ((intro w hSw; (try dsimp only at hSw); go_simp) <;> with_reducible rfl)
                    (try simp only [Act.put, List.setIfInBounds_toArray, List.set_cons_zero, List.set_cons_succ])
                    refine wpAnyH_take (i := 21) (oi := { dst := some 103, op := Op.move (Operand.tmp 0), type := 67, pos := "lists.go:409", after := #[{ on := 20, ground := Ground.guard }], guard := some (20, true) }) (v := undef) rfl (by kernel_rfl) (by kernel_rfl) (by kernel_rfl) (fun _ _ _ h => h) (Or.inr ⟨by rfl, rfl⟩) (by assumption) ?_
                    (try simp only [Act.put, List.setIfInBounds_toArray, List.set_cons_zero, List.set_cons_succ])
                    refine wpAnyH_take (i := 22) (oi := { dst := some 104, op := Op.move (Operand.tmp 9), type := 3, pos := "lists.go:409", after := #[{ on := 20, ground := Ground.guard }], guard := some (20, true) }) (v := undef) rfl (by kernel_rfl) (by kernel_rfl) (by kernel_rfl) (fun _ _ _ h => h) (Or.inr ⟨by rfl, rfl⟩) (by assumption) ?_
                    (try simp only [Act.put, List.setIfInBounds_toArray, List.set_cons_zero, List.set_cons_succ])
                    refine wpAnyH_take (i := 23) (oi := { dst := some 105, op := Op.indexAddr 67 (Operand.tmp 103) (Operand.tmp 104), type := 0, pos := "lists.go:409", after := #[{ on := 21, ground := Ground.data }, { on := 22, ground := Ground.data }, { on := 20, ground := Ground.guard }], guard := some (20, true) }) (v := undef) rfl (by kernel_rfl) (by kernel_rfl) (by kernel_rfl) (fun _ _ _ h => h) (Or.inr ⟨by rfl, rfl⟩) (by assumption) ?_
                    (try simp only [Act.put, List.setIfInBounds_toArray, List.set_cons_zero, List.set_cons_succ])
                    refine wpAnyH_take (i := 24) (oi := { dst := some 106, op := Op.load 51 (Operand.tmp 105), type := 51, pos := "lists.go:409", after := #[{ on := 23, ground := Ground.data }, { on := 20, ground := Ground.guard }], guard := some (20, true) }) (v := undef) rfl (by kernel_rfl) (by kernel_rfl) (by kernel_rfl) (fun _ _ _ h => h) (Or.inr ⟨by rfl, rfl⟩) (by assumption) ?_
                    (try simp only [Act.put, List.setIfInBounds_toArray, List.set_cons_zero, List.set_cons_succ])
                    refine wpAnyH_take (i := 25) (oi := { dst := some 107, op := Op.move (Operand.tmp 10), type := 3, pos := "lists.go:409", after := #[{ on := 20, ground := Ground.guard }], guard := some (20, true) }) (v := undef) rfl (by kernel_rfl) (by kernel_rfl) (by kernel_rfl) (fun _ _ _ h => h) (Or.inr ⟨by rfl, rfl⟩) (by assumption) ?_
                    (try simp only [Act.put, List.setIfInBounds_toArray, List.set_cons_zero, List.set_cons_succ])
                    refine wpAnyH_take (i := 26) (oi := { dst := some 108, op := Op.indexAddr 51 (Operand.tmp 106) (Operand.tmp 107), type := 0, pos := "lists.go:409", after := #[{ on := 24, ground := Ground.data }, { on := 25, ground := Ground.data }, { on := 20, ground := Ground.guard }], guard := some (20, true) }) (v := undef) rfl (by kernel_rfl) (by kernel_rfl) (by kernel_rfl) (fun _ _ _ h => h) (Or.inr ⟨by rfl, rfl⟩) (by assumption) ?_
                    (try simp only [Act.put, List.setIfInBounds_toArray, List.set_cons_zero, List.set_cons_succ])
                    refine wpAnyH_take (i := 27) (oi := { dst := some 109, op := Op.load 63 (Operand.tmp 108), type := 63, pos := "lists.go:409", after := #[{ on := 26, ground := Ground.data }, { on := 20, ground := Ground.guard }], guard := some (20, true) }) (v := undef) rfl (by kernel_rfl) (by kernel_rfl) (by kernel_rfl) (fun _ _ _ h => h) (Or.inr ⟨by rfl, rfl⟩) (by assumption) ?_
                    (try simp only [Act.put, List.setIfInBounds_toArray, List.set_cons_zero, List.set_cons_succ])
                    refine wpAnyH_take (i := 28) (oi := { dst := some 110, op := Op.move (Operand.tmp 5), type := 67, pos := "lists.go:409", after := #[{ on := 20, ground := Ground.guard }], guard := some (20, true) }) (v := undef) rfl (by kernel_rfl) (by kernel_rfl) (by kernel_rfl) (fun _ _ _ h => h) (Or.inr ⟨by rfl, rfl⟩) (by assumption) ?_
                    (try simp only [Act.put, List.setIfInBounds_toArray, List.set_cons_zero, List.set_cons_succ])
                    refine wpAnyH_take (i := 29) (oi := { dst := some 111, op := Op.move (Operand.tmp 9), type := 3, pos := "lists.go:409", after := #[{ on := 20, ground := Ground.guard }], guard := some (20, true) }) (v := undef) rfl (by kernel_rfl) (by kernel_rfl) (by kernel_rfl) (fun _ _ _ h => h) (Or.inr ⟨by rfl, rfl⟩) (by assumption) ?_
                    (try simp only [Act.put, List.setIfInBounds_toArray, List.set_cons_zero, List.set_cons_succ])
                    refine wpAnyH_take (i := 30) (oi := { dst := some 112, op := Op.indexAddr 67 (Operand.tmp 110) (Operand.tmp 111), type := 0, pos := "lists.go:409", after := #[{ on := 28, ground := Ground.data }, { on := 29, ground := Ground.data }, { on := 20, ground := Ground.guard }], guard := some (20, true) }) (v := undef) rfl (by kernel_rfl) (by kernel_rfl) (by kernel_rfl) (fun _ _ _ h => h) (Or.inr ⟨by rfl, rfl⟩) (by assumption) ?_
                    (try simp only [Act.put, List.setIfInBounds_toArray, List.set_cons_zero, List.set_cons_succ])
                    refine wpAnyH_take (i := 31) (oi := { dst := some 113, op := Op.load 51 (Operand.tmp 112), type := 51, pos := "lists.go:409", after := #[{ on := 30, ground := Ground.data }, { on := 20, ground := Ground.guard }], guard := some (20, true) }) (v := undef) rfl (by kernel_rfl) (by kernel_rfl) (by kernel_rfl) (fun _ _ _ h => h) (Or.inr ⟨by rfl, rfl⟩) (by assumption) ?_
                    (try simp only [Act.put, List.setIfInBounds_toArray, List.set_cons_zero, List.set_cons_succ])
                    refine wpAnyH_take (i := 32) (oi := { dst := some 114, op := Op.move (Operand.tmp 10), type := 3, pos := "lists.go:409", after := #[{ on := 20, ground := Ground.guard }], guard := some (20, true) }) (v := undef) rfl (by kernel_rfl) (by kernel_rfl) (by kernel_rfl) (fun _ _ _ h => h) (Or.inr ⟨by rfl, rfl⟩) (by assumption) ?_
                    (try simp only [Act.put, List.setIfInBounds_toArray, List.set_cons_zero, List.set_cons_succ])
                    refine wpAnyH_take (i := 33) (oi := { dst := some 115, op := Op.indexAddr 51 (Operand.tmp 113) (Operand.tmp 114), type := 0, pos := "lists.go:409", after := #[{ on := 31, ground := Ground.data }, { on := 32, ground := Ground.data }, { on := 20, ground := Ground.guard }], guard := some (20, true) }) (v := undef) rfl (by kernel_rfl) (by kernel_rfl) (by kernel_rfl) (fun _ _ _ h => h) (Or.inr ⟨by rfl, rfl⟩) (by assumption) ?_
                    (try simp only [Act.put, List.setIfInBounds_toArray, List.set_cons_zero, List.set_cons_succ])
                    refine wpAnyH_take (i := 34) (oi := { dst := some 116, op := Op.load 63 (Operand.tmp 115), type := 63, pos := "lists.go:409", after := #[{ on := 33, ground := Ground.data }, { on := 20, ground := Ground.guard }], guard := some (20, true) }) (v := undef) rfl (by kernel_rfl) (by kernel_rfl) (by kernel_rfl) (fun _ _ _ h => h) (Or.inr ⟨by rfl, rfl⟩) (by assumption) ?_
                    (try simp only [Act.put, List.setIfInBounds_toArray, List.set_cons_zero, List.set_cons_succ])
                    refine wpAnyH_take (i := 35) (oi := { dst := some 117, op := Op.binOp BinOp.neq 63 (Operand.tmp 109) (Operand.tmp 116) 63, type := 4, pos := "lists.go:409", after := #[{ on := 27, ground := Ground.data }, { on := 34, ground := Ground.data }, { on := 20, ground := Ground.guard }], guard := some (20, true) }) (v := undef) rfl (by kernel_rfl) (by kernel_rfl) (by kernel_rfl) (fun _ _ _ h => h) (Or.inr ⟨by rfl, rfl⟩) (by assumption) ?_
                    (try simp only [Act.put, List.setIfInBounds_toArray, List.set_cons_zero, List.set_cons_succ])
                    refine wpAnyH_take (i := 36) (oi := { dst := some 118, op := Op.pick (Operand.tmp 102) (Operand.tmp 117) (Operand.const (Value.bool false)), type := 4, pos := "lists.go:409", after := #[{ on := 20, ground := Ground.data }, { on := 35, ground := Ground.data }, { on := 12, ground := Ground.guard }], guard := some (12, false) }) (v := ?vc36) rfl (by kernel_rfl) (by kernel_rfl) (by kernel_rfl) (fun _ _ _ h => h) (Or.inl ⟨by rfl, ?yc36⟩) (by assumption) ?rc36
                    case yc36 => ((intro w hSw; (try dsimp only at hSw); go_simp) <;> with_reducible rfl)
                    (try simp only [Act.put, List.setIfInBounds_toArray, List.set_cons_zero, List.set_cons_succ])
                    refine wpAnyH_take (i := 37) (oi := { dst := some 119, op := Op.pick (Operand.tmp 94) (Operand.const (Value.bool true)) (Operand.tmp 118), type := 4, pos := "lists.go:409", after := #[{ on := 12, ground := Ground.data }, { on := 36, ground := Ground.data }], guard := none }) (v := ?vc37) rfl (by kernel_rfl) (by kernel_rfl) (by kernel_rfl) (fun _ _ _ h => h) (Or.inl ⟨by rfl, ?yc37⟩) (by assumption) ?rc37
                    case yc37 => ((intro w hSw; (try dsimp only at hSw); go_simp) <;> with_reducible rfl)
                    (try simp only [Act.put, List.setIfInBounds_toArray, List.set_cons_zero, List.set_cons_succ])
                    refine wpAnyH_done (by kernel_rfl) ?_ _
                    have HT9 := Keep.mk (HT.out.drew.below hb)
                    clear HT hb HS hHeld2
                    go_wp2
                    go_roundw
                    case rel => exact ⟨i + 1, by omega, by go_num, HT9⟩
                    case measure => simp [intOf]; omega
                · go_wp2
                  clear hcT
                  go_roundw
                  case rel => exact ⟨k + 1, by omega, by go_num, HT⟩
                  case measure => simp [intOf]; omega
            · go_wp2
              go_ret
              exact ⟨rfl, HT.out.far⟩
set_option maxHeartbeats 1000000 in
theorem apart_nil (w : World) (c : Nat) : Calls Try.prog 39 #[.slice none 0 c] w fun e w' => e = .returned (.bool true) ∧ w' = w := by
  go_enter Try.func39, Try.ntmps39
  go_wp2
  go_loopw [3] (fun v3 w' => v3 = .int .i64 0 ∧ w' = w) (fun _ _ => 0)
  case atStart => exact ⟨rfl, rfl⟩
  case round =>
    obtain ⟨rfl, rfl⟩ := hrel
    go_wp2
    go_loopw [5, 6] (fun v5 v6 w' => v6 = .int .i64 0 ∧ w' = wr) (fun _ _ _ => 0)
    case atStart => exact ⟨rfl, rfl⟩
    case round =>
      obtain ⟨rfl, rfl⟩ := hrel
      go_wp2
      go_loopw [9] (fun v9 w' => v9 = .int .i64 0 ∧ w' = wr) (fun _ _ => 0)
      case atStart => exact ⟨rfl, rfl⟩
      case round =>
        obtain ⟨rfl, rfl⟩ := hrel
        go_wp2
        go_ret
        exact ⟨rfl, rfl⟩
end Go.Proofs.Ytochgkepaleblaa.ApH
