/- ModelNone: the whole function: whatever calls are handed in, it returns true. No conditions but that each call of the list lies in seven cells. -/
import Derived.Test.YtpochibfjpanhaaGreatPiece
import Derived.WalkKit
import Derived.Below
import Derived.OwnWalk
import Derived.Tactics
import Derived.KernelRfl
import Derived.RowKit
import Derived.Laws.ResultCell
import Derived.Laws.Rows
import Derived.WalkSpells
import Derived.LoopTactic
import Derived.IntWalk
import Derived.Deep.Cut
import Derived.Deep.MidRow
set_option linter.unusedVariables false
set_option linter.unusedSimpArgs false
namespace Go.Proofs.YtpochibfjpanhaaGreat.Exe
open Go Go.Proofs Go.RowKit
structure Aside (p : Prop) : Prop where mk :: (out : p)
theorem at_dst {P : Program} {o : Oper} {ops : Array Oper} {rest : List Oper} {a : Act} {w : World} {Q : Exit → Act → World → Prop} {N : Nat} (_ : o.dst = some N) (h : wpList P ops Q (o :: rest) a w) : wpList P ops Q (o :: rest) a w := h
theorem at_store {P : Program} {o : Oper} {ops : Array Oper} {rest : List Oper} {a : Act} {w : World} {Q : Exit → Act → World → Prop} {t : TypeId} {p : Tmp} {v : Operand} (_ : o.op = .store t (.tmp p) v) (h : wpList P ops Q (o :: rest) a w) : wpList P ops Q (o :: rest) a w := h
theorem size37 : (Tryz.prog.info? 37).map (·.size) = some 7 := by kernel_rfl
/-- Where `made` lies. -/
def rB (B : Nat) : Rho := fun b => if b = 0 then some (B, 0) else none
theorem oM_eq : oM = .cells 32 27 [.int .i64 0, .int .i64 0, .int .i64 0, .int .i64 0, .int .i64 0, .int .i64 0, .int .i64 0, .int .i64 0, .int .i64 0, .mnil, .pnil, .pnil, .pnil, .pnil, .pnil, .pnil, .pnil, .pnil, .pnil, .pnil, .pnil, .pnil, .pnil, .pnil, .pnil, .pnil, .snil] := by kernel_rfl
theorem oM_rel (ρ : Rho) : ORel ρ 0 oM (.cells #[.int .i64 0, .int .i64 0, .int .i64 0, .int .i64 0, .int .i64 0, .int .i64 0, .int .i64 0, .int .i64 0, .int .i64 0, .map none, .pointer none, .pointer none, .pointer none, .pointer none, .pointer none, .pointer none, .pointer none, .pointer none, .pointer none, .pointer none, .pointer none, .pointer none, .pointer none, .pointer none, .pointer none, .pointer none, .slice none 0 0] 32 (0, 0)) := by
  rw [oM_eq]
  refine ORel.cells (us := [.int .i64 0, .int .i64 0, .int .i64 0, .int .i64 0, .int .i64 0, .int .i64 0, .int .i64 0, .int .i64 0, .int .i64 0, .map none, .pointer none, .pointer none, .pointer none, .pointer none, .pointer none, .pointer none, .pointer none, .pointer none, .pointer none, .pointer none, .pointer none, .pointer none, .pointer none, .pointer none, .pointer none, .pointer none, .slice none 0 0]) (tail := []) ?_ rfl ?_
  · repeat first | exact .nil | refine .one rfl (.int _ _) ?_ | refine .one rfl .mnil ?_ | refine .one rfl .pnil ?_ | refine .one rfl .snil ?_
  · exact .inl rfl
theorem made_rel (w : World) : WRel w (rB w.heap.size) S0 (w.alloc (.cells #[.int .i64 0, .int .i64 0, .int .i64 0, .int .i64 0, .int .i64 0, .int .i64 0, .int .i64 0, .int .i64 0, .int .i64 0, .map none, .pointer none, .pointer none, .pointer none, .pointer none, .pointer none, .pointer none, .pointer none, .pointer none, .pointer none, .pointer none, .pointer none, .pointer none, .pointer none, .pointer none, .pointer none, .pointer none, .slice none 0 0] 32 (0, 0))) := by
  have h := (start_rel w).alloc oM (.cells #[.int .i64 0, .int .i64 0, .int .i64 0, .int .i64 0, .int .i64 0, .int .i64 0, .int .i64 0, .int .i64 0, .int .i64 0, .map none, .pointer none, .pointer none, .pointer none, .pointer none, .pointer none, .pointer none, .pointer none, .pointer none, .pointer none, .pointer none, .pointer none, .pointer none, .pointer none, .pointer none, .pointer none, .pointer none, .slice none 0 0] 32 (0, 0)) 0 (oM_rel _)
  exact h
theorem call_rel {w wr : World} {B : Nat} (h : WRel w (rB B) S0 wr) {c0 c1 c2 c3 c4 c5 c6 : Value} (h0 : c0.cells = #[c0] ∧ c0.oneCell' = true) (h1 : c1.cells = #[c1] ∧ c1.oneCell' = true) (h2 : c2.cells = #[c2] ∧ c2.oneCell' = true) (h3 : c3.cells = #[c3] ∧ c3.oneCell' = true) (h4 : c4.cells = #[c4] ∧ c4.oneCell' = true) (h5 : c5.cells = #[c5] ∧ c5.oneCell' = true) (h6 : c6.cells = #[c6] ∧ c6.oneCell' = true) :
    WRel w ((rB B).add 1 (wr.heap.size, 0)) (S1 c0 c1 c2 c3 c4 c5 c6) (wr.alloc (.cells #[c0, c1, c2, c3, c4, c5, c6] 37 (0, 0))) := by
  refine h.alloc (.cells 37 7 [.lit c0, .lit c1, .lit c2, .lit c3, .lit c4, .lit c5, .lit c6]) (.cells #[c0, c1, c2, c3, c4, c5, c6] 37 (0, 0)) 0 ?_
  refine ORel.cells (us := [c0, c1, c2, c3, c4, c5, c6]) (tail := []) ?_ rfl (.inl rfl)
  exact .one rfl (.lit h0.1 h0.2) (.one rfl (.lit h1.1 h1.2) (.one rfl (.lit h2.1 h2.2) (.one rfl (.lit h3.1 h3.2) (.one rfl (.lit h4.1 h4.2) (.one rfl (.lit h5.1 h5.2) (.one rfl (.lit h6.1 h6.2) .nil))))))
theorem t1_rel {ρ : Rho} {v0 : Value} {n : Int} {B C : Nat} (hv : v0.cells = #[v0] ∧ v0.oneCell' = true) (h0 : ρ 0 = some (B, 0)) (h1 : ρ 1 = some (C, 0)) {a : Act} (a0 : a.tmps.getD 0 undef = v0) (a3 : a.tmps.getD 3 undef = .pointer (some ⟨B, 0, none⟩)) (a4 : a.tmps.getD 4 undef = .bool true) (a5 : a.tmps.getD 5 undef = .int .i64 n) (a6 : a.tmps.getD 6 undef = .pointer (some ⟨C, 0, none⟩)) (a7 : a.tmps.getD 7 undef = .pointer none) (a1 : a.tmps.getD 1 undef = undef) (a13 : a.tmps.getD 13 undef = .bool true) (a85 : a.tmps.getD 85 undef = undef) : TRel ρ (t1 v0 n) a := fun m => by
  unfold t1
  by_cases e85 : m = 85
  · subst e85; rw [evTmp_put, a85]; exact .tup .nil
  rw [evTmp_put_ne e85]
  by_cases e13 : m = 13
  · subst e13; rw [evTmp_put, a13]; exact .bool _
  rw [evTmp_put_ne e13]
  by_cases e1 : m = 1
  · subst e1; rw [evTmp_put, a1]; exact .tup .nil
  rw [evTmp_put_ne e1]
  by_cases e7 : m = 7
  · subst e7; rw [evTmp_put, a7]; exact .pnil
  rw [evTmp_put_ne e7]
  by_cases e6 : m = 6
  · subst e6; rw [evTmp_put, a6]; exact .ptr h1
  rw [evTmp_put_ne e6]
  by_cases e5 : m = 5
  · subst e5; rw [evTmp_put, a5]; exact .int _ _
  rw [evTmp_put_ne e5]
  by_cases e4 : m = 4
  · subst e4; rw [evTmp_put, a4]; exact .bool _
  rw [evTmp_put_ne e4]
  by_cases e3 : m = 3
  · subst e3; rw [evTmp_put, a3]; exact .ptr h0
  rw [evTmp_put_ne e3]
  by_cases e0 : m = 0
  · subst e0; rw [evTmp_put, a0]; exact .lit hv.1 hv.2
  rw [evTmp_put_ne e0]
  rw [nil_get]; exact .junk _
theorem awake_calls (w : World) : Calls Tryz.prog 4 #[] w fun e w' => e = .returned (.bool true) ∧ Grown w w' := by
  have h := (memoOK 4 [] (.bool true) List.mem_cons_self).2 [] .nil
  exact (callsIn_wide.1 (h.2 w)).mono fun e w' ⟨u, he, hd, hg⟩ => by
    cases hd
    exact ⟨he, hg⟩
/-- A frame of 86 slots, slot by slot. -/
theorem frame86 {t : Array Value} (h : t.size = 86) : t = #[t.getD 0 undef, t.getD 1 undef, t.getD 2 undef, t.getD 3 undef, t.getD 4 undef, t.getD 5 undef, t.getD 6 undef, t.getD 7 undef, t.getD 8 undef, t.getD 9 undef, t.getD 10 undef, t.getD 11 undef, t.getD 12 undef, t.getD 13 undef, t.getD 14 undef, t.getD 15 undef, t.getD 16 undef, t.getD 17 undef, t.getD 18 undef, t.getD 19 undef, t.getD 20 undef, t.getD 21 undef, t.getD 22 undef, t.getD 23 undef, t.getD 24 undef, t.getD 25 undef, t.getD 26 undef, t.getD 27 undef, t.getD 28 undef, t.getD 29 undef, t.getD 30 undef, t.getD 31 undef, t.getD 32 undef, t.getD 33 undef, t.getD 34 undef, t.getD 35 undef, t.getD 36 undef, t.getD 37 undef, t.getD 38 undef, t.getD 39 undef, t.getD 40 undef, t.getD 41 undef, t.getD 42 undef, t.getD 43 undef, t.getD 44 undef, t.getD 45 undef, t.getD 46 undef, t.getD 47 undef, t.getD 48 undef, t.getD 49 undef, t.getD 50 undef, t.getD 51 undef, t.getD 52 undef, t.getD 53 undef, t.getD 54 undef, t.getD 55 undef, t.getD 56 undef, t.getD 57 undef, t.getD 58 undef, t.getD 59 undef, t.getD 60 undef, t.getD 61 undef, t.getD 62 undef, t.getD 63 undef, t.getD 64 undef, t.getD 65 undef, t.getD 66 undef, t.getD 67 undef, t.getD 68 undef, t.getD 69 undef, t.getD 70 undef, t.getD 71 undef, t.getD 72 undef, t.getD 73 undef, t.getD 74 undef, t.getD 75 undef, t.getD 76 undef, t.getD 77 undef, t.getD 78 undef, t.getD 79 undef, t.getD 80 undef, t.getD 81 undef, t.getD 82 undef, t.getD 83 undef, t.getD 84 undef, t.getD 85 undef] := by
  have e : t = ((List.range 86).map (fun i => t.getD i undef)).toArray := by
    refine Array.ext (by simp [h]) fun i h1 h2 => ?_
    simp [Array.getD, h1]
  exact e.trans (by kernel_rfl)
/-- What there is behind the rest of a round. -/
theorem after {w w' : World} {B C : Nat} {a' : Act} {ρ' : Rho} {v0 : Value} {n : Int} (h1 : WRel w ρ' S0 w') (h2 : ∃ r x, (rB B).add 1 (C, 0) 0 = some (r, x) ∧ ρ' 0 = some (r, x)) (h3 : a'.tmps.size = 86) (h4 : a'.defers = [])
    (d0 : Den ρ' (.lit v0) (a'.tmps.getD 0 undef)) (d3 : Den ρ' (.ptr 0 0) (a'.tmps.getD 3 undef)) (d4 : Den ρ' (.bool true) (a'.tmps.getD 4 undef)) (d5 : Den ρ' (.int .i64 n) (a'.tmps.getD 5 undef)) (d1 : Den ρ' (.tup []) (a'.tmps.getD 1 undef)) (d13 : Den ρ' (.bool true) (a'.tmps.getD 13 undef)) (d85 : Den ρ' (.tup []) (a'.tmps.getD 85 undef)) :
    WRel w (rB B) S0 w' ∧ ∃ u2 u6 u7 u8 u9 u10 u11 u12 u14 u15 u16 u17 u18 u19 u20 u21 u22 u23 u24 u25 u26 u27 u28 u29 u30 u31 u32 u33 u34 u35 u36 u37 u38 u39 u40 u41 u42 u43 u44 u45 u46 u47 u48 u49 u50 u51 u52 u53 u54 u55 u56 u57 u58 u59 u60 u61 u62 u63 u64 u65 u66 u67 u68 u69 u70 u71 u72 u73 u74 u75 u76 u77 u78 u79 u80 u81 u82 u83 u84, a' = ⟨#[v0, undef, u2, .pointer (some ⟨B, 0, none⟩), .bool true, .int .i64 n, u6, u7, u8, u9, u10, u11, u12, .bool true, u14, u15, u16, u17, u18, u19, u20, u21, u22, u23, u24, u25, u26, u27, u28, u29, u30, u31, u32, u33, u34, u35, u36, u37, u38, u39, u40, u41, u42, u43, u44, u45, u46, u47, u48, u49, u50, u51, u52, u53, u54, u55, u56, u57, u58, u59, u60, u61, u62, u63, u64, u65, u66, u67, u68, u69, u70, u71, u72, u73, u74, u75, u76, u77, u78, u79, u80, u81, u82, u83, u84, undef], []⟩ := by
  obtain ⟨r, x, e1, e2⟩ := h2
  have e1 : some (B, 0) = some (r, x) := e1
  cases e1
  have hρ : ρ' = rB B := by
    funext b
    by_cases hb : b = 0
    · subst hb; exact e2
    · rw [h1.dom b (Nat.one_le_iff_ne_zero.2 hb)]
      exact (if_neg hb).symm
  subst hρ
  refine ⟨h1, ?_⟩
  have g0 : a'.tmps.getD 0 undef = v0 := by generalize a'.tmps.getD 0 undef = u at d0; cases d0; rfl
  have g3 : a'.tmps.getD 3 undef = .pointer (some ⟨B, 0, none⟩) := by
    generalize a'.tmps.getD 3 undef = u at d3
    cases d3 with
    | ptr h => have h := h.symm.trans e2; cases h; rfl
  have g4 : a'.tmps.getD 4 undef = .bool true := by generalize a'.tmps.getD 4 undef = u at d4; cases d4; rfl
  have g5 : a'.tmps.getD 5 undef = .int .i64 n := by generalize a'.tmps.getD 5 undef = u at d5; cases d5; rfl
  have g1 : a'.tmps.getD 1 undef = undef := by generalize a'.tmps.getD 1 undef = u at d1; cases d1; rename_i hh; cases hh; rfl
  have g13 : a'.tmps.getD 13 undef = .bool true := by generalize a'.tmps.getD 13 undef = u at d13; cases d13; rfl
  have g85 : a'.tmps.getD 85 undef = undef := by generalize a'.tmps.getD 85 undef = u at d85; cases d85; rename_i hh; cases hh; rfl
  have e := frame86 h3
  rw [g0, g3, g4, g5, g1, g13, g85] at e
  refine ⟨a'.tmps.getD 2 undef, a'.tmps.getD 6 undef, a'.tmps.getD 7 undef, a'.tmps.getD 8 undef, a'.tmps.getD 9 undef, a'.tmps.getD 10 undef, a'.tmps.getD 11 undef, a'.tmps.getD 12 undef, a'.tmps.getD 14 undef, a'.tmps.getD 15 undef, a'.tmps.getD 16 undef, a'.tmps.getD 17 undef, a'.tmps.getD 18 undef, a'.tmps.getD 19 undef, a'.tmps.getD 20 undef, a'.tmps.getD 21 undef, a'.tmps.getD 22 undef, a'.tmps.getD 23 undef, a'.tmps.getD 24 undef, a'.tmps.getD 25 undef, a'.tmps.getD 26 undef, a'.tmps.getD 27 undef, a'.tmps.getD 28 undef, a'.tmps.getD 29 undef, a'.tmps.getD 30 undef, a'.tmps.getD 31 undef, a'.tmps.getD 32 undef, a'.tmps.getD 33 undef, a'.tmps.getD 34 undef, a'.tmps.getD 35 undef, a'.tmps.getD 36 undef, a'.tmps.getD 37 undef, a'.tmps.getD 38 undef, a'.tmps.getD 39 undef, a'.tmps.getD 40 undef, a'.tmps.getD 41 undef, a'.tmps.getD 42 undef, a'.tmps.getD 43 undef, a'.tmps.getD 44 undef, a'.tmps.getD 45 undef, a'.tmps.getD 46 undef, a'.tmps.getD 47 undef, a'.tmps.getD 48 undef, a'.tmps.getD 49 undef, a'.tmps.getD 50 undef, a'.tmps.getD 51 undef, a'.tmps.getD 52 undef, a'.tmps.getD 53 undef, a'.tmps.getD 54 undef, a'.tmps.getD 55 undef, a'.tmps.getD 56 undef, a'.tmps.getD 57 undef, a'.tmps.getD 58 undef, a'.tmps.getD 59 undef, a'.tmps.getD 60 undef, a'.tmps.getD 61 undef, a'.tmps.getD 62 undef, a'.tmps.getD 63 undef, a'.tmps.getD 64 undef, a'.tmps.getD 65 undef, a'.tmps.getD 66 undef, a'.tmps.getD 67 undef, a'.tmps.getD 68 undef, a'.tmps.getD 69 undef, a'.tmps.getD 70 undef, a'.tmps.getD 71 undef, a'.tmps.getD 72 undef, a'.tmps.getD 73 undef, a'.tmps.getD 74 undef, a'.tmps.getD 75 undef, a'.tmps.getD 76 undef, a'.tmps.getD 77 undef, a'.tmps.getD 78 undef, a'.tmps.getD 79 undef, a'.tmps.getD 80 undef, a'.tmps.getD 81 undef, a'.tmps.getD 82 undef, a'.tmps.getD 83 undef, a'.tmps.getD 84 undef, ?_⟩
  rw [← e, ← h4]
theorem rows_alloc (w : World) (o : Obj) : (w.alloc o).heap.size = w.heap.size + 1 := by show (w.heap.push o).size = _; simp
theorem slice_one (A : Option Addr) (n c : Nat) : (Value.slice A n c).cells = #[Value.slice A n c] ∧ (Value.slice A n c).oneCell' = true := ⟨rfl, rfl⟩
/-- What a call of the list is: seven cells. -/
def Seven (w : World) (A : Option Addr) (n : Nat) : Prop := ∀ i, i < n → ∃ b o c0 c1 c2 c3 c4 c5 c6, A = some ⟨b, o, none⟩ ∧ w.rangeAt b (o + i * 7) [c0, c1, c2, c3, c4, c5, c6] ∧ (c0.cells = #[c0] ∧ c0.oneCell' = true) ∧ (c1.cells = #[c1] ∧ c1.oneCell' = true) ∧ (c2.cells = #[c2] ∧ c2.oneCell' = true) ∧ (c3.cells = #[c3] ∧ c3.oneCell' = true) ∧ (c4.cells = #[c4] ∧ c4.oneCell' = true) ∧ (c5.cells = #[c5] ∧ c5.oneCell' = true) ∧ (c6.cells = #[c6] ∧ c6.oneCell' = true)
theorem low_cell {w w' : World} (h : ∀ r, r < w.heap.size → w'.heap[r]? = w.heap[r]?) {b o : Nat} {v : Value} (e : w.cell? ⟨b, o, none⟩ = some v) : w'.cell? ⟨b, o, none⟩ = some v := by
  have hb := World.block_lt_of_cell? _ _ e
  rw [← e]
  show World.cell? w' _ = World.cell? w _
  unfold World.cell?
  simp only [h b hb]
set_option maxHeartbeats 4000000 in
set_option maxRecDepth 100000 in
theorem law (w : World) (A : Option Addr) (n c : Nat) (hn : n < 2 ^ 62) (hA : Seven w A n) :
    Calls Tryz.prog 3 #[.slice A n c] w fun e w' => e = .returned (.bool true) ∧ Below w.heap.size w w' := by
  have HA := Aside.mk hA
  clear hA
  go_enter Tryz.func3, Tryz.ntmps3
  go_wp2_with (go_at_call 4; refine (awake_calls _).mono ?_; rintro e w1 ⟨rfl, hb⟩)
  have HR := Aside.mk ((made_rel w).grown hb)
  clear hb
  go_loopw [5] (fun v5 w' => ∃ i : Nat, i ≤ n + 1 ∧ v5 = .int .i64 i ∧ Aside (WRel w (rB w.heap.size) S0 w')) (fun v5 _ => n + 1 - (intOf v5).toNat)
  case atStart => exact ⟨0, Nat.zero_le _, rfl, HR⟩
  case round =>
    clear HR
    obtain ⟨i, hi, rfl, HB⟩ := hrel
    by_cases hlt : i ≤ n
    · by_cases hl2 : i < n
      · obtain ⟨b, o, c0, c1, c2, c3, c4, c5, c6, rfl, hra0, hones⟩ := HA.out i hl2
        have Ho := Aside.mk hones
        clear hones
        have hi0 : (0 : Int) ≤ (i : Int) := Int.natCast_nonneg _
        have hi1 : (i : Int) < (n : Int) := by omega
        have hra : (wr.alloc (.cells #[.int .u8 14, .string ByteArray.empty, .string ByteArray.empty, .int .i64 0, .int .i64 0, .int .i64 0, .slice none 0 0] 37)).rangeAt b (o + i * 7) [c0, c1, c2, c3, c4, c5, c6] :=
          World.rangeAt_alloc (fun j v hv => low_cell HB.out.low (hra0 j v hv)) _
        have Hra := Aside.mk hra
        clear hra hra0
        have hth : (wr.alloc (.cells #[.int .u8 14, .string ByteArray.empty, .string ByteArray.empty, .int .i64 0, .int .i64 0, .int .i64 0, .slice none 0 0] 37)).there wr.heap.size 0 7 := by
          intro j hj
          have e : (wr.alloc (.cells #[.int .u8 14, .string ByteArray.empty, .string ByteArray.empty, .int .i64 0, .int .i64 0, .int .i64 0, .slice none 0 0] 37)).cell? ⟨wr.heap.size, 0 + j, none⟩ = (#[.int .u8 14, .string ByteArray.empty, .string ByteArray.empty, .int .i64 0, .int .i64 0, .int .i64 0, .slice none 0 0] : Array Value)[0 + j]? := World.cell?_alloc_mark wr _ 37 (0, 0) _
          refine ⟨?_, by simp [go_sem]⟩
          rw [e]
          have : j = 0 ∨ j = 1 ∨ j = 2 ∨ j = 3 ∨ j = 4 ∨ j = 5 ∨ j = 6 := by omega
          rcases this with rfl | rfl | rfl | rfl | rfl | rfl | rfl <;> rfl
        have Hth := Aside.mk hth
        clear hth
        have hon : (#[c0, c1, c2, c3, c4, c5, c6] : Array Value).all (·.oneCell') = true := by
          obtain ⟨h0, h1, h2, h3, h4, h5, h6⟩ := Ho.out
          simp [h0.2, h1.2, h2.2, h3.2, h4.2, h5.2, h6.2]
        have Hon := Aside.mk hon
        clear hon
        go_upto_region 9 with (first | ((with_reducible refine at_dst (N := 28) rfl ?_); refine wpList_load_mid rfl 37 _ rfl b (o + i * 7) ?hx [c0, c1, c2, c3, c4, c5, c6] _ Hra.out Tryz.underlying37 rfl size37 ?_; (case hx => rfl); (try simp only [Act.put, List.setIfInBounds_toArray, List.set_cons_zero, List.set_cons_succ])) | ((with_reducible refine at_store (t := 37) (p := 6) (v := .tmp 28) rfl ?_); refine wpList_store_mid rfl 37 (.tmp 6) (.tmp 28) rfl wr.heap.size 0 #[c0, c1, c2, c3, c4, c5, c6] rfl rfl Hth.out size37 Hon.out ?_))
        have ew : (wr.alloc (.cells #[.int .u8 14, .string ByteArray.empty, .string ByteArray.empty, .int .i64 0, .int .i64 0, .int .i64 0, .slice none 0 0] 37)).setCells wr.heap.size 0 [c0, c1, c2, c3, c4, c5, c6] = wr.alloc (.cells #[c0, c1, c2, c3, c4, c5, c6] 37 (0, 0)) := by
          simp [World.setCells, World.setCell_alloc_at]
        iterate 7 (first | go_values | go_skip | go_guarded | go_step | go_upon)
        have hc := call_rel HB.out Ho.out.1 Ho.out.2.1 Ho.out.2.2.1 Ho.out.2.2.2.1 Ho.out.2.2.2.2.1 Ho.out.2.2.2.2.2.1 Ho.out.2.2.2.2.2.2
        change Code.wp _ _ _ _ ((wr.alloc (.cells #[.int .u8 14, .string ByteArray.empty, .string ByteArray.empty, .int .i64 0, .int .i64 0, .int .i64 0, .slice none 0 0] 37)).setCells wr.heap.size 0 [c0, c1, c2, c3, c4, c5, c6])
        rw [ew]
        refine rest (v0 := .slice (some ⟨b, o, none⟩) n c) (n := i) (ρ := (rB w.heap.size).add 1 (wr.heap.size, 0)) ⟨hc, t1_rel (slice_one _ _ _) rfl rfl rfl rfl rfl rfl rfl rfl rfl rfl rfl, .nil, rfl⟩ ?_
        intro a' w' ρ' h1 h2 h3 h4 d0 d3 d4 d5 d1 d13 d85
        obtain ⟨HW, u2, u6, u7, u8, u9, u10, u11, u12, u14, u15, u16, u17, u18, u19, u20, u21, u22, u23, u24, u25, u26, u27, u28, u29, u30, u31, u32, u33, u34, u35, u36, u37, u38, u39, u40, u41, u42, u43, u44, u45, u46, u47, u48, u49, u50, u51, u52, u53, u54, u55, u56, u57, u58, u59, u60, u61, u62, u63, u64, u65, u66, u67, u68, u69, u70, u71, u72, u73, u74, u75, u76, u77, u78, u79, u80, u81, u82, u83, u84, rfl⟩ := after h1 h2 h3 h4 d0 d3 d4 d5 d1 d13 d85
        clear hc ew h1 h2 h3 h4 d0 d3 d4 d5 d1 d13 d85
        have HB' := Aside.mk HW
        clear HW HB
        go_wp2_with fail
        go_roundw
        case rel => exact ⟨i + 1, by omega, by go_num, HB'⟩
        case measure => simp [intOf]; omega
      · obtain rfl : i = n := by omega
        go_upto_region 9 with fail
        iterate 7 (first | go_values | go_skip | go_guarded | go_step | go_upon)
        have hc := call_rel HB.out (c0 := .int .u8 14) (c1 := .string ByteArray.empty) (c2 := .string ByteArray.empty) (c3 := .int .i64 0) (c4 := .int .i64 0) (c5 := .int .i64 0) (c6 := .slice none 0 0) ⟨rfl, rfl⟩ ⟨rfl, rfl⟩ ⟨rfl, rfl⟩ ⟨rfl, rfl⟩ ⟨rfl, rfl⟩ ⟨rfl, rfl⟩ ⟨rfl, rfl⟩
        refine rest (v0 := .slice A i c) (n := i) (ρ := (rB w.heap.size).add 1 (wr.heap.size, 0)) ⟨hc, t1_rel (slice_one _ _ _) rfl rfl rfl rfl rfl rfl rfl rfl rfl rfl rfl, .nil, rfl⟩ ?_
        intro a' w' ρ' h1 h2 h3 h4 d0 d3 d4 d5 d1 d13 d85
        obtain ⟨HW, u2, u6, u7, u8, u9, u10, u11, u12, u14, u15, u16, u17, u18, u19, u20, u21, u22, u23, u24, u25, u26, u27, u28, u29, u30, u31, u32, u33, u34, u35, u36, u37, u38, u39, u40, u41, u42, u43, u44, u45, u46, u47, u48, u49, u50, u51, u52, u53, u54, u55, u56, u57, u58, u59, u60, u61, u62, u63, u64, u65, u66, u67, u68, u69, u70, u71, u72, u73, u74, u75, u76, u77, u78, u79, u80, u81, u82, u83, u84, rfl⟩ := after h1 h2 h3 h4 d0 d3 d4 d5 d1 d13 d85
        clear hc h1 h2 h3 h4 d0 d3 d4 d5 d1 d13 d85
        have HB' := Aside.mk HW
        clear HW HB
        go_wp2_with fail
        go_roundw
        case rel => exact ⟨i + 1, by omega, by go_num, HB'⟩
        case measure => simp [intOf]
    · obtain rfl : i = n + 1 := by omega
      go_wp2_with fail
      go_ret
      exact ⟨rfl, HB.out.os, HB.out.tape, HB.out.output, HB.out.size, HB.out.low⟩
end Go.Proofs.YtpochibfjpanhaaGreat.Exe
