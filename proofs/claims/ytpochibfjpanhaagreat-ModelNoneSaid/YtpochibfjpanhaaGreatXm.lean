/- A part of the machine that reckons a closed run, and of the proof that what it says the given program does. No conditions. -/
import Derived.Test.YtpochibfjpanhaaGreatXl
set_option linter.unusedVariables false
set_option linter.unusedSimpArgs false
namespace Go.Proofs.YtpochibfjpanhaaGreat.Exe
open Go
variable {base w : World} {P : Program} {ρ : Rho} {S : AS} {t : T} {e : Operand → Value} {o : Oper} {c : K} {z : AV × Option AS}

theorem inK_some {k : IntKind} {n : Int} {v : AV} (h : inK k n = some v) : v = .int k (k.wrap n) := by
  rw [inK_eq, wrapK_eq] at h
  exact (Option.some.inj h).symm
theorem bitsK_eq (k : IntKind) : bitsK k = k.bits := by cases k <;> rfl
theorem limK_le (k : IntKind) : limK k ≤ 2 ^ k.bits := by cases k <;> decide
theorem wrap_small {k : IntKind} {n : Nat} (h : n < limK k) : k.wrap n = n := by
  cases k
  · have h : n < 128 := h; rw [wrap_i8]; split <;> omega
  · have h : n < 32768 := h; rw [wrap_i16]; split <;> omega
  · have h : n < 2147483648 := h; rw [wrap_i32]; split <;> omega
  · have h : n < 9223372036854775808 := h; rw [wrap_i64]; split <;> omega
  · have h : n < 256 := h; rw [wrap_u8]; omega
  · have h : n < 65536 := h; rw [wrap_u16]; omega
  · have h : n < 4294967296 := h; rw [wrap_u32]; omega
  · have h : n < 18446744073709551616 := h; rw [wrap_u64]; omega
theorem bv_small {k : IntKind} {a : Nat} (h : a < limK k) : (BitVec.ofInt k.bits (a : Int)).toNat = a := by
  have := limK_le k
  rw [BitVec.toNat_ofInt]
  have h2 : ((2 ^ k.bits : Nat) : Int) ≠ 0 := by have := Nat.pow_pos (a := 2) (n := k.bits) (by omega); omega
  rw [← Int.natCast_emod, Int.toNat_natCast, Nat.mod_eq_of_lt (by omega)]
theorem land_lt {a b l : Nat} (h : a < l) : Nat.land a b < l := Nat.lt_of_le_of_lt (Nat.and_le_left) h
theorem lim_pow (k : IntKind) : ∃ n, limK k = 2 ^ n := by
  cases k
  · exact ⟨7, rfl⟩
  · exact ⟨15, rfl⟩
  · exact ⟨31, rfl⟩
  · exact ⟨63, rfl⟩
  · exact ⟨8, rfl⟩
  · exact ⟨16, rfl⟩
  · exact ⟨32, rfl⟩
  · exact ⟨64, rfl⟩
theorem lor_lt {k : IntKind} {a b : Nat} (h : a < limK k) (g : b < limK k) : Nat.lor a b < limK k := by
  obtain ⟨n, e⟩ := lim_pow k
  rw [e] at h g ⊢
  exact Nat.or_lt_two_pow h g
theorem xor_lt {k : IntKind} {a b : Nat} (h : a < limK k) (g : b < limK k) : Nat.xor a b < limK k := by
  obtain ⟨n, e⟩ := lim_pow k
  rw [e] at h g ⊢
  exact Nat.xor_lt_two_pow h g

theorem bit2_some {f : Nat → Nat → Nat} {k : IntKind} {a b : Int} {v : AV} (h : bit2 f k a b = some v) : ∃ m n : Nat, a = m ∧ b = n ∧ m < limK k ∧ n < limK k ∧ v = .int k (f m n : Nat) := by
  obtain ⟨m, rfl, h3⟩ := onNatI_some h
  obtain ⟨n, rfl, h4⟩ := onNatI_some h3
  obtain ⟨h1, h5⟩ := ifB_some h4
  obtain ⟨h2, h⟩ := ifB_some h5
  rw [forceN_eq] at h
  have g1 : m < limK k := Nat.lt_of_lt_of_le (Nat.lt_succ_self m) (ble_true h1)
  have g2 : n < limK k := Nat.lt_of_lt_of_le (Nat.lt_succ_self n) (ble_true h2)
  exact ⟨m, n, rfl, rfl, g1, g2, (Option.some.inj h).symm⟩

theorem ltK_eq (a b : Int) : ltK a b = decide (a < b) := by
  cases a <;> cases b
  · rename_i m n
    show Nat.blt m n = _
    rcases blt_cases m n with ⟨e, g⟩ | ⟨e, g⟩
    · rw [e]; symm; rw [decide_eq_true_eq]; show (m : Int) < n; omega
    · rw [e]; symm; rw [decide_eq_false_iff_not]; show ¬ (m : Int) < n; omega
  · rename_i m n
    show false = _
    symm; rw [decide_eq_false_iff_not]; show ¬ (m : Int) < _; rw [Int.negSucc_eq]; omega
  · rename_i m n
    show true = _
    symm; rw [decide_eq_true_eq]; show _ < (n : Int); rw [Int.negSucc_eq]; omega
  · rename_i m n
    show Nat.blt n m = _
    rcases blt_cases n m with ⟨e, g⟩ | ⟨e, g⟩
    · rw [e]; symm; rw [decide_eq_true_eq, Int.negSucc_eq, Int.negSucc_eq]; omega
    · rw [e]; symm; rw [decide_eq_false_iff_not, Int.negSucc_eq, Int.negSucc_eq]; omega
theorem beq_dec (m n : Nat) : Nat.beq m n = decide (m = n) := by
  cases h : Nat.beq m n with
  | true => symm; rw [decide_eq_true_eq]; exact beq_true h
  | false => symm; rw [decide_eq_false_iff_not]; exact beq_false h
theorem eqK_eq (a b : Int) : eqK a b = decide (a = b) := by
  cases a <;> cases b
  · rename_i m n
    show Nat.beq m n = _
    rw [beq_dec]
    rw [decide_eq_decide]
    constructor
    · intro h; rw [h]
    · intro h; exact Int.ofNat.inj h
  · rename_i m n; show false = _; symm; rw [decide_eq_false_iff_not]; intro h; cases h
  · rename_i m n; show false = _; symm; rw [decide_eq_false_iff_not]; intro h; cases h
  · rename_i m n
    show Nat.beq m n = _
    rw [beq_dec]
    simp
theorem le_dec (a b : Int) : decide (a ≤ b) = !decide (b < a) := by
  by_cases h : b < a
  · rw [decide_eq_true h]; rw [decide_eq_false_iff_not.2 (by omega)]; rfl
  · rw [decide_eq_false h, decide_eq_true (by omega)]; rfl
theorem ifB_not (b : Bool) : ifB b false true = !b := by cases b <;> rfl

/-- Two numbers of one kind. -/
theorem int_bin {op : BinOp} {ty : TypeId} {k : IntKind} {a b : Int} {v : AV} (h : intOp op k a b = some v) (hs : isShift op = false) : ∃ u, Den ρ v u ∧ (binOp op ty (.int k a) (.int k b)).run P w = .ok u w := by
  cases op
  · have := inK_some ((iAdd_eq k a b).symm.trans h); subst this; exact ⟨_, .int _ _, by simp [binOp, Op.intArith]⟩
  · have := inK_some ((iSub_eq k a b).symm.trans h); subst this; exact ⟨_, .int _ _, by simp [binOp, Op.intArith]⟩
  · have := inK_some ((iMul_eq k a b).symm.trans h); subst this; exact ⟨_, .int _ _, by simp [binOp, Op.intArith]⟩
  · obtain ⟨m, rfl, h⟩ := onNatI_some (show onNatI a _ = some v from h)
    obtain ⟨n, rfl, h⟩ := onNatI_some h
    rcases ifB_or h with ⟨_, h⟩ | ⟨h0, h⟩
    · cases h
    · have h0 := beq_false h0
      have := inK_some h; subst this
      refine ⟨_, .int _ _, ?_⟩
      have e1 : (Int.tdiv (m : Int) (n : Int)) = ((m / n : Nat) : Int) := rfl
      simp [binOp, Op.intDiv, h0, e1]
      rfl
  · obtain ⟨m, rfl, h⟩ := onNatI_some (show onNatI a _ = some v from h)
    obtain ⟨n, rfl, h⟩ := onNatI_some h
    rcases ifB_or h with ⟨_, h⟩ | ⟨h0, h⟩
    · cases h
    · have h0 := beq_false h0
      rw [forceN_eq] at h
      cases h
      refine ⟨_, .int _ _, ?_⟩
      have e1 : (Int.tmod (m : Int) (n : Int)) = ((m % n : Nat) : Int) := rfl
      simp [binOp, Op.intDiv, h0, e1]
      rfl
  · obtain ⟨m, n, rfl, rfl, h1, h2, rfl⟩ := bit2_some (show bit2 Nat.land k a b = some v from h)
    refine ⟨_, .int _ _, ?_⟩
    have e1 : (BitVec.ofInt k.bits (m : Int) &&& BitVec.ofInt k.bits (n : Int)).toNat = Nat.land m n := by rw [BitVec.toNat_and, bv_small h1, bv_small h2]; rfl
    simp only [binOp, ne_eq, not_true_eq_false, if_false, Op.intBits, e1, wrap_small (land_lt h1)]
    rfl
  · obtain ⟨m, n, rfl, rfl, h1, h2, rfl⟩ := bit2_some (show bit2 Nat.lor k a b = some v from h)
    refine ⟨_, .int _ _, ?_⟩
    have e1 : (BitVec.ofInt k.bits (m : Int) ||| BitVec.ofInt k.bits (n : Int)).toNat = Nat.lor m n := by rw [BitVec.toNat_or, bv_small h1, bv_small h2]; rfl
    simp only [binOp, ne_eq, not_true_eq_false, if_false, Op.intBits, e1, wrap_small (lor_lt h1 h2)]
    rfl
  · obtain ⟨m, n, rfl, rfl, h1, h2, rfl⟩ := bit2_some (show bit2 Nat.xor k a b = some v from h)
    refine ⟨_, .int _ _, ?_⟩
    have e1 : (BitVec.ofInt k.bits (m : Int) ^^^ BitVec.ofInt k.bits (n : Int)).toNat = Nat.xor m n := by rw [BitVec.toNat_xor, bv_small h1, bv_small h2]; rfl
    simp only [binOp, ne_eq, not_true_eq_false, if_false, Op.intBits, e1, wrap_small (xor_lt h1 h2)]
    rfl
  · cases hs
  · cases hs
  · obtain ⟨m, n, rfl, rfl, h1, h2, rfl⟩ := bit2_some (show bit2 (fun a b => Nat.land a (Nat.xor b (2 ^ bitsK k - 1))) k a b = some v from h)
    refine ⟨_, .int _ _, ?_⟩
    have e1 : (BitVec.ofInt k.bits (m : Int) &&& ~~~ BitVec.ofInt k.bits (n : Int)).toNat = Nat.land m (Nat.xor n (2 ^ bitsK k - 1)) := by
      rw [BitVec.toNat_and, ← BitVec.xor_allOnes, BitVec.toNat_xor, BitVec.toNat_allOnes, bv_small h1, bv_small h2, bitsK_eq]; rfl
    simp only [binOp, ne_eq, not_true_eq_false, if_false, Op.intBits, e1, wrap_small (land_lt h1)]
    rfl
  · cases h; exact ⟨_, .bool _, by simp [binOp, Op.intCmp, eqK_eq]; rfl⟩
  · cases h; exact ⟨_, .bool _, by simp [binOp, Op.intCmp, eqK_eq, ifB_not]; rfl⟩
  · cases h; exact ⟨_, .bool _, by simp [binOp, Op.intCmp, ltK_eq]⟩
  · cases h; exact ⟨_, .bool _, by simp [binOp, Op.intCmp, ltK_eq, ifB_not, le_dec]⟩
  · cases h; exact ⟨_, .bool _, by simp [binOp, Op.intCmp, ltK_eq]⟩
  · cases h; exact ⟨_, .bool _, by simp [binOp, Op.intCmp, ltK_eq, ifB_not, le_dec]⟩
end Go.Proofs.YtpochibfjpanhaaGreat.Exe
