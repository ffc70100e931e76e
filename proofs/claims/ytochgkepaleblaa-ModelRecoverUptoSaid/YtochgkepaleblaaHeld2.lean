/- Two blocks held against each other; two lists of blocks. -/
import Derived.Test.YtochgkepaleblaaHeld
set_option linter.unusedVariables false
set_option linter.unusedSimpArgs false
namespace Go.Proofs.Ytochgkepaleblaa.Held
open Go.RowKit Go.Proofs.YtochgkepaleblaaW.PrintWords Go.Proofs.YtochgkepaleblaaW.PrintLast Go.Proofs.YtochgkepaleblaaW.PrintMore

theorem info61 : (Try.prog.info? 61).map (·.size) = some 1024 := by kernel_rfl
theorem u61 : ∃ e, Try.prog.underlying 61 = some (.array 1024 e) ∧ Try.prog.underlying e = some (.int .u8) ∧ (Try.prog.info? e).map (·.size) = some 1 := ⟨5, Try.underlying61, Try.underlying5, by kernel_rfl⟩
theorem sizeOf_of {t n : Nat} (h : (Try.prog.info? t).map (·.size) = some n) (w : World) : (sizeOf t).run Try.prog w = .ok n w := by
  cases hi : Try.prog.info? t with
  | none => rw [hi] at h; cases h
  | some i =>
    rw [hi] at h
    have : i.size = n := Option.some.inj h
    simp [sizeOf, typeInfo, hi, this]
theorem part61 (x : B63) (w : World) : (part 61 (enc63 x).toArray 1).run Try.prog w = .ok (.agg (x.data.map Extern.Stop.cell).toArray) w := by
  obtain ⟨e, hu, _, _⟩ := u61
  have hx : (enc63 x).toArray.extract 1 (1 + 1024) = (x.data.map Extern.Stop.cell).toArray := by
    apply Array.ext'
    rw [List.extract_toArray]
    show ((enc63 x).drop 1).take _ = _
    unfold enc63
    rw [List.drop_succ_cons, List.drop_zero, List.take_of_length_le (by rw [List.length_map, x.len]; decide)]
  simp only [part, Sem.run_bind, isAgg, run_underlying hu, Result.andThen_ok, Sem.run_pure, if_true, sizeOf_of info61, hx]
theorem eq63 (x y : B63) (w : World) : (Op.equalIn 10000 63 (.agg (enc63 x).toArray) (.agg (enc63 y).toArray)).run Try.prog w = .ok (x.ix == y.ix && (x.data == y.data)) w := by
  obtain ⟨e, hu, he, hs⟩ := u61
  refine eqA_of (d := 9999) Try.underlying63 (by kernel_rfl) ?_
  refine eqf_cons (by rfl) (a := .int .i64 x.ix) (b := .int .i64 y.ix) (r := x.ix == y.ix) ?_ ?_ ?_ ?_
  · simp [part, isAgg, run_underlying Try.underlying3, enc63]
  · simp [part, isAgg, run_underlying Try.underlying3, enc63]
  · exact run_equalIn_int w 9998 3 .i64 .i64 _ _ Try.underlying3
  · exact eqf_last (by rfl) (part61 x w) (part61 y w) (run_equalIn_bytes w 9997 61 e 1024 hu he (sizeOf_of hs) x.data y.data x.len y.len)
theorem beq63 (x y : B63) : (x.ix == y.ix && (x.data == y.data)) = decide (x = y) := by
  by_cases h : x = y
  · subst h
    simp
  · rw [decide_eq_false h]
    by_cases h1 : x.ix = y.ix
    · have h2 : ¬ x.data = y.data := fun e => h (B63.same h1 e)
      simp [h2]
    · simp [h1]
theorem neq63 (x y : B63) (w : World) : (binOp .neq 63 (.agg (enc63 x).toArray) (.agg (enc63 y).toArray)).run Try.prog w = .ok (.bool (!decide (x = y))) w := by
  rw [run_neq_struct, eq63, beq63]
  rfl

theorem neqOp63 {o : Oper} {a : Act} {p q : Operand} {x y : B63} (ho : o.op = .binOp .neq 63 p q 63) (hp : a.eval p = .agg (enc63 x).toArray) (hq : a.eval q = .agg (enc63 y).toArray) (w : World) : (execOp a.eval o).run Try.prog w = .ok (.value (.bool (!decide (x = y)))) w := by
  unfold execOp
  simp only [ho, hp, hq, Sem.run_bind, run_eqGuard_agg (P := Try.prog) w .neq 63 p q _ _ (by kernel_rfl), Result.andThen_ok, neq63]
  rfl

def undercroftref28_SameHeld.f (k : Nat) (l0 l1 : List B63) : Option Bool := some (decide (l0 = l1))
theorem undercroftref28_SameHeld.mono : ∀ a0 a1 k, LeO (undercroftref28_SameHeld.f k a0 a1) (undercroftref28_SameHeld.f (k + 1) a0 a1) := fun _ _ _ => LeO.refl _
set_option maxHeartbeats 4000000 in
set_option maxRecDepth 100000 in
theorem undercroftref28_SameHeld.calls (k : Nat) (A0 : Option Addr) (c0 : Nat) (l0 : List B63) (A1 : Option Addr) (c1 : Nat) (l1 : List B63) (r : Bool) (w : World) (hr0 : Kd.C kB63 w A0 l0.length l0) (hc0 : l0.length ≤ c0) (hr1 : Kd.C kB63 w A1 l1.length l1) (hc1 : l1.length ≤ c1) (h : undercroftref28_SameHeld.f k l0 l1 = some r) :
    Calls Try.prog 43 #[.slice A0 l0.length c0, .slice A1 l1.length c1] w fun e w' => e = .returned (.bool r) ∧ Drawn0 w w' := by
  obtain rfl := Option.some.inj h
  clear h
  have hm : l0.length ≤ 9223372036854775807 := hr0.2.1
  have HR0 := Keep.mk hr0
  have HR1 := Keep.mk hr1
  clear hr0 hr1
  go_enter Try.func43, Try.ntmps43
  by_cases hl : l0.length = l1.length
  · have hle : ((l0.length : Int) != (l1.length : Int)) = false := by rw [hl]; simp
    have hlj : (l1.length : Int) = (l0.length : Int) := by rw [hl]
    generalize hn : l0.length = n at *
    go_wp2
    go_loopw [5] (fun v5 w' => ∃ i : Nat, i ≤ n ∧ v5 = .int .i64 i ∧ Keep (l0.take i = l1.take i) ∧ Keep (Drawn0 w w')) (fun v5 _ => n - (intOf v5).toNat)
    case atStart => exact ⟨0, Nat.zero_le _, rfl, ⟨by simp⟩, ⟨Drawn0.refl _⟩⟩
    case round =>
      obtain ⟨i, hi, rfl, HT, HD⟩ := hrel
      by_cases hlt : i < n
      · have hl0 : i < l0.length := by rw [hn]; exact hlt
        have hl1 : i < l1.length := by rw [← hl]; exact hlt
        obtain ⟨b1, o1, rfl, ha0⟩ := range63 HR0.out i hlt
        obtain ⟨b2, o2, rfl, hb0⟩ := range63 HR1.out i hl1
        have HX := Keep.mk (And.intro ha0 hb0)
        clear ha0 hb0
        generalize hx : l0.getD i zB63 = x at HX
        generalize hy : l1.getD i zB63 = y at HX
        have HG := Keep.mk (And.intro hx hy)
        clear hx hy
        obtain ⟨⟨nd, rfl⟩⟩ := HD.out
        clear HD
        have hra : (w.drewN nd).rangeAt b1 (o1 + i * 1025) (enc63 x) := fun j v hv => (Drawn0.below ((Drawn0.refl w).step nd)).cell (p := ⟨b1, o1 + i * 1025 + j, none⟩) (World.block_lt_of_cell? w _ (HX.out.1 j v hv)) |>.trans (HX.out.1 j v hv)
        have hrb : (w.drewN nd).rangeAt b2 (o2 + i * 1025) (enc63 y) := fun j v hv => (Drawn0.below ((Drawn0.refl w).step nd)).cell (p := ⟨b2, o2 + i * 1025 + j, none⟩) (World.block_lt_of_cell? w _ (HX.out.2 j v hv)) |>.trans (HX.out.2 j v hv)
        have HR := Keep.mk (And.intro hra hrb)
        clear hra hrb
        have hi0 : (0 : Int) ≤ (i : Int) := Int.natCast_nonneg _
        have hi1 : (i : Int) < (n : Int) := by omega
        go_wp2_with (fail)
        refine wp_region_held_drew (S := fun w' => w'.rangeAt b1 (o1 + i * 1025) (enc63 x) ∧ w'.rangeAt b2 (o2 + i * 1025) (enc63 y)) (by kernel_rfl) ⟨(World.rangeAt_drew _ _ _ _).2 HR.out.1, (World.rangeAt_drew _ _ _ _).2 HR.out.2⟩ (fun hHeld => ?_)
        refine wpAnyH_take (i := 0) (oi := { dst := some 17, op := Op.move (Operand.tmp 0), type := 51, pos := "same.go:43", after := #[], guard := none }) (v := ?v0) rfl (by kernel_rfl) (by kernel_rfl) (by kernel_rfl) (fun _ _ _ h => h) (Or.inl ⟨by rfl, ?y0⟩) (by assumption) ?r0
        case y0 => ((intro w hSw; (try dsimp only at hSw); go_simp) <;> with_reducible rfl)
        (try simp only [Act.put, List.setIfInBounds_toArray, List.set_cons_zero, List.set_cons_succ])
        refine wpAnyH_take (i := 1) (oi := { dst := some 18, op := Op.move (Operand.tmp 5), type := 3, pos := "same.go:43", after := #[], guard := none }) (v := ?v1) rfl (by kernel_rfl) (by kernel_rfl) (by kernel_rfl) (fun _ _ _ h => h) (Or.inl ⟨by rfl, ?y1⟩) (by assumption) ?r1
        case y1 => ((intro w hSw; (try dsimp only at hSw); go_simp) <;> with_reducible rfl)
        (try simp only [Act.put, List.setIfInBounds_toArray, List.set_cons_zero, List.set_cons_succ])
        refine wpAnyH_take (i := 2) (oi := { dst := some 19, op := Op.indexAddr 51 (Operand.tmp 17) (Operand.tmp 18), type := 0, pos := "same.go:43", after := #[{ on := 0, ground := Ground.data }, { on := 1, ground := Ground.data }], guard := none }) (v := ?v2) rfl (by kernel_rfl) (by kernel_rfl) (by kernel_rfl) (fun _ _ _ h => h) (Or.inl ⟨by rfl, ?y2⟩) (by assumption) ?r2
        case y2 => ((intro w hSw; (try dsimp only at hSw); go_simp) <;> with_reducible rfl)
        (try simp only [Act.put, List.setIfInBounds_toArray, List.set_cons_zero, List.set_cons_succ])
        refine wpAnyH_take (i := 3) (oi := { dst := some 20, op := Op.load 63 (Operand.tmp 19), type := 63, pos := "same.go:43", after := #[{ on := 2, ground := Ground.data }], guard := none }) (v := .agg (enc63 x).toArray) rfl (by kernel_rfl) (by kernel_rfl) (by kernel_rfl) (fun _ _ _ h => h) (yieldsIf_load_mid (by rfl) 63 _ rfl b1 (o1 + i * 1025) rfl (enc63 x) _ (fun w' hw => hw.1) Try.underlying63 rfl (by rw [enc63_len]; exact size63)) (by assumption) ?_
        (try simp only [Act.put, List.setIfInBounds_toArray, List.set_cons_zero, List.set_cons_succ])
        refine wpAnyH_take (i := 4) (oi := { dst := some 21, op := Op.move (Operand.tmp 1), type := 51, pos := "same.go:43", after := #[], guard := none }) (v := ?v4) rfl (by kernel_rfl) (by kernel_rfl) (by kernel_rfl) (fun _ _ _ h => h) (Or.inl ⟨by rfl, ?y4⟩) (by assumption) ?r4
        case y4 => ((intro w hSw; (try dsimp only at hSw); go_simp) <;> with_reducible rfl)
        (try simp only [Act.put, List.setIfInBounds_toArray, List.set_cons_zero, List.set_cons_succ])
        refine wpAnyH_take (i := 5) (oi := { dst := some 22, op := Op.move (Operand.tmp 5), type := 3, pos := "same.go:43", after := #[], guard := none }) (v := ?v5) rfl (by kernel_rfl) (by kernel_rfl) (by kernel_rfl) (fun _ _ _ h => h) (Or.inl ⟨by rfl, ?y5⟩) (by assumption) ?r5
        case y5 => ((intro w hSw; (try dsimp only at hSw); go_simp) <;> with_reducible rfl)
        (try simp only [Act.put, List.setIfInBounds_toArray, List.set_cons_zero, List.set_cons_succ])
        refine wpAnyH_take (i := 6) (oi := { dst := some 23, op := Op.indexAddr 51 (Operand.tmp 21) (Operand.tmp 22), type := 0, pos := "same.go:43", after := #[{ on := 4, ground := Ground.data }, { on := 5, ground := Ground.data }], guard := none }) (v := ?v6) rfl (by kernel_rfl) (by kernel_rfl) (by kernel_rfl) (fun _ _ _ h => h) (Or.inl ⟨by rfl, ?y6⟩) (by assumption) ?r6
        case y6 => ((intro w hSw; (try dsimp only at hSw); go_simp) <;> with_reducible rfl)
        (try simp only [Act.put, List.setIfInBounds_toArray, List.set_cons_zero, List.set_cons_succ])
        refine wpAnyH_take (i := 7) (oi := { dst := some 24, op := Op.load 63 (Operand.tmp 23), type := 63, pos := "same.go:43", after := #[{ on := 6, ground := Ground.data }], guard := none }) (v := .agg (enc63 y).toArray) rfl (by kernel_rfl) (by kernel_rfl) (by kernel_rfl) (fun _ _ _ h => h) (yieldsIf_load_mid (by rfl) 63 _ rfl b2 (o2 + i * 1025) rfl (enc63 y) _ (fun w' hw => hw.2) Try.underlying63 rfl (by rw [enc63_len]; exact size63)) (by assumption) ?_
        (try simp only [Act.put, List.setIfInBounds_toArray, List.set_cons_zero, List.set_cons_succ])
        refine wpAnyH_take (i := 8) (oi := { dst := some 25, op := Op.binOp BinOp.neq 63 (Operand.tmp 20) (Operand.tmp 24) 63, type := 4, pos := "same.go:43", after := #[{ on := 3, ground := Ground.data }, { on := 7, ground := Ground.data }], guard := none }) (v := .bool (!decide (x = y))) rfl (by kernel_rfl) (by kernel_rfl) (by kernel_rfl) (fun _ _ _ h => h) (Or.inl ⟨by rfl, fun w' _ => neqOp63 rfl (by rfl) (by rfl) w'⟩) (by assumption) ?_
        (try simp only [Act.put, List.setIfInBounds_toArray, List.set_cons_zero, List.set_cons_succ])
        refine wpAnyH_done (by kernel_rfl) ?_ _
        clear hHeld
        by_cases hxy : x = y
        · have hd : (!decide (x = y)) = false := by rw [decide_eq_true hxy]; rfl
          rw [hd]
          go_wp2
          go_roundw
          case rel =>
            refine ⟨i + 1, by omega, by go_num, ⟨?_⟩, ⟨by repeat (first | exact Drawn0.refl _ | apply Drawn0.step)⟩⟩
            rw [List.take_succ_eq_append_getElem hl0, List.take_succ_eq_append_getElem hl1, HT.out]
            have e1 : l0[i] = x := by
              rw [← HG.out.1, List.getD_eq_getElem?_getD, List.getElem?_eq_getElem hl0]
              rfl
            have e2 : l1[i] = y := by
              rw [← HG.out.2, List.getD_eq_getElem?_getD, List.getElem?_eq_getElem hl1]
              rfl
            rw [e1, e2, hxy]
          case measure => simp [intOf]; omega
        · have hd : (!decide (x = y)) = true := by rw [decide_eq_false hxy]; rfl
          rw [hd]
          have hne : ¬ l0 = l1 := fun e => hxy (by rw [← HG.out.1, ← HG.out.2, e])
          go_wp2
          go_ret
          exact ⟨by rw [decide_eq_false hne]; rfl, by repeat (first | exact Drawn0.refl _ | apply Drawn0.step)⟩
      · have he : l0 = l1 := by
          have := HT.out
          rw [List.take_of_length_le (by omega), List.take_of_length_le (by omega)] at this
          exact this
        obtain ⟨⟨nd, rfl⟩⟩ := HD.out
        go_wp2
        go_ret
        exact ⟨by rw [decide_eq_true he]; rfl, by repeat (first | exact Drawn0.refl _ | apply Drawn0.step)⟩
  · have hle : ((l0.length : Int) != (l1.length : Int)) = true := by rw [bne_iff_ne]; omega
    have hne : ¬ l0 = l1 := fun e => hl (by rw [e])
    go_wp2
    go_ret
    exact ⟨by rw [decide_eq_false hne]; rfl, Drawn0.refl _⟩


def alike_Held.f (k : Nat) (l0 l1 : List B63) : Option Bool := some (decide (l0 = l1))
theorem alike_Held.mono : ∀ a0 a1 k, LeO (alike_Held.f k a0 a1) (alike_Held.f (k + 1) a0 a1) := fun _ _ _ => LeO.refl _
set_option maxHeartbeats 4000000 in
set_option maxRecDepth 100000 in
theorem alike_Held.calls (k : Nat) (A0 : Option Addr) (c0 : Nat) (l0 : List B63) (A1 : Option Addr) (c1 : Nat) (l1 : List B63) (r : Bool) (w : World) (hr0 : Kd.C kB63 w A0 l0.length l0) (hc0 : l0.length ≤ c0) (hr1 : Kd.C kB63 w A1 l1.length l1) (hc1 : l1.length ≤ c1) (h : alike_Held.f k l0 l1 = some r) :
    Calls Try.prog 34 #[.slice A0 l0.length c0, .slice A1 l1.length c1] w fun e w' => e = .returned (.bool r) ∧ Drawn0 w w' := by
  obtain rfl := Option.some.inj h
  clear h
  have hm : l0.length ≤ 9223372036854775807 := hr0.2.1
  have HR0 := Keep.mk hr0
  have HR1 := Keep.mk hr1
  clear hr0 hr1
  go_enter Try.func34, Try.ntmps34
  by_cases hl : l0.length = l1.length
  · have hle : ((l0.length : Int) != (l1.length : Int)) = false := by rw [hl]; simp
    have hlj : (l1.length : Int) = (l0.length : Int) := by rw [hl]
    generalize hn : l0.length = n at *
    go_wp2
    go_loopw [13] (fun v13 w' => ∃ i : Nat, i ≤ n ∧ v13 = .int .i64 i ∧ Keep (l0.take i = l1.take i) ∧ Keep (Drawn0 w w')) (fun v13 _ => n - (intOf v13).toNat)
    case atStart => exact ⟨0, Nat.zero_le _, rfl, ⟨by simp⟩, ⟨Drawn0.refl _⟩⟩
    case round =>
      obtain ⟨i, hi, rfl, HT, HD⟩ := hrel
      by_cases hlt : i < n
      · have hl0 : i < l0.length := by rw [hn]; exact hlt
        have hl1 : i < l1.length := by rw [← hl]; exact hlt
        obtain ⟨b1, o1, rfl, ha0⟩ := range63 HR0.out i hlt
        obtain ⟨b2, o2, rfl, hb0⟩ := range63 HR1.out i hl1
        have HX := Keep.mk (And.intro ha0 hb0)
        clear ha0 hb0
        generalize hx : l0.getD i zB63 = x at HX
        generalize hy : l1.getD i zB63 = y at HX
        have HG := Keep.mk (And.intro hx hy)
        clear hx hy
        obtain ⟨⟨nd, rfl⟩⟩ := HD.out
        clear HD
        have hra : (w.drewN nd).rangeAt b1 (o1 + i * 1025) (enc63 x) := fun j v hv => (Drawn0.below ((Drawn0.refl w).step nd)).cell (p := ⟨b1, o1 + i * 1025 + j, none⟩) (World.block_lt_of_cell? w _ (HX.out.1 j v hv)) |>.trans (HX.out.1 j v hv)
        have hrb : (w.drewN nd).rangeAt b2 (o2 + i * 1025) (enc63 y) := fun j v hv => (Drawn0.below ((Drawn0.refl w).step nd)).cell (p := ⟨b2, o2 + i * 1025 + j, none⟩) (World.block_lt_of_cell? w _ (HX.out.2 j v hv)) |>.trans (HX.out.2 j v hv)
        have HR := Keep.mk (And.intro hra hrb)
        clear hra hrb
        have hi0 : (0 : Int) ≤ (i : Int) := Int.natCast_nonneg _
        have hi1 : (i : Int) < (n : Int) := by omega
        go_wp2_with (fail)
        refine wp_region_held_drew (S := fun w' => w'.rangeAt b1 (o1 + i * 1025) (enc63 x) ∧ w'.rangeAt b2 (o2 + i * 1025) (enc63 y)) (by kernel_rfl) ⟨(World.rangeAt_drew _ _ _ _).2 HR.out.1, (World.rangeAt_drew _ _ _ _).2 HR.out.2⟩ (fun hHeld => ?_)
        refine wpAnyH_take (i := 0) (oi := { dst := some 16, op := Op.move (Operand.tmp 0), type := 51, pos := "state.go:61", after := #[], guard := none }) (v := ?v0) rfl (by kernel_rfl) (by kernel_rfl) (by kernel_rfl) (fun _ _ _ h => h) (Or.inl ⟨by rfl, ?y0⟩) (by assumption) ?r0
        case y0 => ((intro w hSw; (try dsimp only at hSw); go_simp) <;> with_reducible rfl)
        (try simp only [Act.put, List.setIfInBounds_toArray, List.set_cons_zero, List.set_cons_succ])
        refine wpAnyH_take (i := 1) (oi := { dst := some 17, op := Op.move (Operand.tmp 5), type := 3, pos := "state.go:61", after := #[], guard := none }) (v := ?v1) rfl (by kernel_rfl) (by kernel_rfl) (by kernel_rfl) (fun _ _ _ h => h) (Or.inl ⟨by rfl, ?y1⟩) (by assumption) ?r1
        case y1 => ((intro w hSw; (try dsimp only at hSw); go_simp) <;> with_reducible rfl)
        (try simp only [Act.put, List.setIfInBounds_toArray, List.set_cons_zero, List.set_cons_succ])
        refine wpAnyH_take (i := 2) (oi := { dst := some 18, op := Op.indexAddr 51 (Operand.tmp 16) (Operand.tmp 17), type := 0, pos := "state.go:61", after := #[{ on := 0, ground := Ground.data }, { on := 1, ground := Ground.data }], guard := none }) (v := ?v2) rfl (by kernel_rfl) (by kernel_rfl) (by kernel_rfl) (fun _ _ _ h => h) (Or.inl ⟨by rfl, ?y2⟩) (by assumption) ?r2
        case y2 => ((intro w hSw; (try dsimp only at hSw); go_simp) <;> with_reducible rfl)
        (try simp only [Act.put, List.setIfInBounds_toArray, List.set_cons_zero, List.set_cons_succ])
        refine wpAnyH_take (i := 3) (oi := { dst := some 19, op := Op.load 63 (Operand.tmp 18), type := 63, pos := "state.go:61", after := #[{ on := 2, ground := Ground.data }], guard := none }) (v := .agg (enc63 x).toArray) rfl (by kernel_rfl) (by kernel_rfl) (by kernel_rfl) (fun _ _ _ h => h) (yieldsIf_load_mid (by rfl) 63 _ rfl b1 (o1 + i * 1025) rfl (enc63 x) _ (fun w' hw => hw.1) Try.underlying63 rfl (by rw [enc63_len]; exact size63)) (by assumption) ?_
        (try simp only [Act.put, List.setIfInBounds_toArray, List.set_cons_zero, List.set_cons_succ])
        refine wpAnyH_take (i := 4) (oi := { dst := some 20, op := Op.move (Operand.tmp 1), type := 51, pos := "state.go:61", after := #[], guard := none }) (v := ?v4) rfl (by kernel_rfl) (by kernel_rfl) (by kernel_rfl) (fun _ _ _ h => h) (Or.inl ⟨by rfl, ?y4⟩) (by assumption) ?r4
        case y4 => ((intro w hSw; (try dsimp only at hSw); go_simp) <;> with_reducible rfl)
        (try simp only [Act.put, List.setIfInBounds_toArray, List.set_cons_zero, List.set_cons_succ])
        refine wpAnyH_take (i := 5) (oi := { dst := some 21, op := Op.move (Operand.tmp 5), type := 3, pos := "state.go:61", after := #[], guard := none }) (v := ?v5) rfl (by kernel_rfl) (by kernel_rfl) (by kernel_rfl) (fun _ _ _ h => h) (Or.inl ⟨by rfl, ?y5⟩) (by assumption) ?r5
        case y5 => ((intro w hSw; (try dsimp only at hSw); go_simp) <;> with_reducible rfl)
        (try simp only [Act.put, List.setIfInBounds_toArray, List.set_cons_zero, List.set_cons_succ])
        refine wpAnyH_take (i := 6) (oi := { dst := some 22, op := Op.indexAddr 51 (Operand.tmp 20) (Operand.tmp 21), type := 0, pos := "state.go:61", after := #[{ on := 4, ground := Ground.data }, { on := 5, ground := Ground.data }], guard := none }) (v := ?v6) rfl (by kernel_rfl) (by kernel_rfl) (by kernel_rfl) (fun _ _ _ h => h) (Or.inl ⟨by rfl, ?y6⟩) (by assumption) ?r6
        case y6 => ((intro w hSw; (try dsimp only at hSw); go_simp) <;> with_reducible rfl)
        (try simp only [Act.put, List.setIfInBounds_toArray, List.set_cons_zero, List.set_cons_succ])
        refine wpAnyH_take (i := 7) (oi := { dst := some 23, op := Op.load 63 (Operand.tmp 22), type := 63, pos := "state.go:61", after := #[{ on := 6, ground := Ground.data }], guard := none }) (v := .agg (enc63 y).toArray) rfl (by kernel_rfl) (by kernel_rfl) (by kernel_rfl) (fun _ _ _ h => h) (yieldsIf_load_mid (by rfl) 63 _ rfl b2 (o2 + i * 1025) rfl (enc63 y) _ (fun w' hw => hw.2) Try.underlying63 rfl (by rw [enc63_len]; exact size63)) (by assumption) ?_
        (try simp only [Act.put, List.setIfInBounds_toArray, List.set_cons_zero, List.set_cons_succ])
        refine wpAnyH_take (i := 8) (oi := { dst := some 24, op := Op.binOp BinOp.neq 63 (Operand.tmp 19) (Operand.tmp 23) 63, type := 4, pos := "state.go:61", after := #[{ on := 3, ground := Ground.data }, { on := 7, ground := Ground.data }], guard := none }) (v := .bool (!decide (x = y))) rfl (by kernel_rfl) (by kernel_rfl) (by kernel_rfl) (fun _ _ _ h => h) (Or.inl ⟨by rfl, fun w' _ => neqOp63 rfl (by rfl) (by rfl) w'⟩) (by assumption) ?_
        (try simp only [Act.put, List.setIfInBounds_toArray, List.set_cons_zero, List.set_cons_succ])
        refine wpAnyH_done (by kernel_rfl) ?_ _
        clear hHeld
        by_cases hxy : x = y
        · have hd : (!decide (x = y)) = false := by rw [decide_eq_true hxy]; rfl
          rw [hd]
          go_wp2
          go_roundw
          case rel =>
            refine ⟨i + 1, by omega, by go_num, ⟨?_⟩, ⟨by repeat (first | exact Drawn0.refl _ | apply Drawn0.step)⟩⟩
            rw [List.take_succ_eq_append_getElem hl0, List.take_succ_eq_append_getElem hl1, HT.out]
            have e1 : l0[i] = x := by
              rw [← HG.out.1, List.getD_eq_getElem?_getD, List.getElem?_eq_getElem hl0]
              rfl
            have e2 : l1[i] = y := by
              rw [← HG.out.2, List.getD_eq_getElem?_getD, List.getElem?_eq_getElem hl1]
              rfl
            rw [e1, e2, hxy]
          case measure => simp [intOf]; omega
        · have hd : (!decide (x = y)) = true := by rw [decide_eq_false hxy]; rfl
          rw [hd]
          have hne : ¬ l0 = l1 := fun e => hxy (by rw [← HG.out.1, ← HG.out.2, e])
          go_wp2
          go_ret
          exact ⟨by rw [decide_eq_false hne]; rfl, by repeat (first | exact Drawn0.refl _ | apply Drawn0.step)⟩
      · have he : l0 = l1 := by
          have := HT.out
          rw [List.take_of_length_le (by omega), List.take_of_length_le (by omega)] at this
          exact this
        obtain ⟨⟨nd, rfl⟩⟩ := HD.out
        go_wp2
        go_ret
        exact ⟨by rw [decide_eq_true he]; rfl, by repeat (first | exact Drawn0.refl _ | apply Drawn0.step)⟩
  · have hle : ((l0.length : Int) != (l1.length : Int)) = true := by rw [bne_iff_ne]; omega
    have hne : ¬ l0 = l1 := fun e => hl (by rw [e])
    go_wp2
    go_ret
    exact ⟨by rw [decide_eq_false hne]; rfl, Drawn0.refl _⟩

end Go.Proofs.Ytochgkepaleblaa.Held
