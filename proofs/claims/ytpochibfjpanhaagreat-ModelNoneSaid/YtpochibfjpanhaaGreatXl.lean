/- A part of the machine that reckons a closed run, and of the proof that what it says the given program does. No conditions. -/
import Derived.Test.YtpochibfjpanhaaGreatXj
set_option linter.unusedVariables false
set_option linter.unusedSimpArgs false
namespace Go.Proofs.YtpochibfjpanhaaGreat.Exe
open Go
variable {base w : World} {P : Program} {ρ : Rho} {S : AS} {t : T} {e : Operand → Value} {o : Oper} {c : K} {z : AV × Option AS}

theorem blt_cases (a b : Nat) : (Nat.blt a b = true ∧ a < b) ∨ (Nat.blt a b = false ∧ b ≤ a) := by
  cases h : Nat.blt a b with
  | true => exact .inl ⟨rfl, Nat.lt_of_lt_of_le (Nat.lt_succ_self a) (ble_true h)⟩
  | false => exact .inr ⟨rfl, Nat.le_of_lt_succ (ble_false h)⟩

theorem wrapS_ofNat (h m a : Nat) : wrapS h m (.ofNat a) = if a < h then (a : Int) else if a % m < h then ((a % m : Nat) : Int) else -((m - a % m - 1 : Nat) : Int) - 1 := by
  show ifB (Nat.blt a h) (Int.ofNat a) (ifB (Nat.blt (a % m) h) (Int.ofNat (a % m)) (Int.negSucc (m - a % m - 1))) = _
  rcases blt_cases a h with ⟨e, g⟩ | ⟨e, g⟩
  · rw [e, if_pos g]; rfl
  · rw [e, if_neg (by omega)]
    rcases blt_cases (a % m) h with ⟨e, g⟩ | ⟨e, g⟩
    · rw [e, if_pos g]; rfl
    · rw [e, if_neg (by omega)]
      show Int.negSucc _ = _
      rw [Int.negSucc_eq]; omega
theorem wrapS_negSucc (h m a : Nat) : wrapS h m (.negSucc a) = if a < h then -(a : Int) - 1 else if a % m < h then -((a % m : Nat) : Int) - 1 else ((m - a % m - 1 : Nat) : Int) := by
  show ifB (Nat.blt a h) (Int.negSucc a) (ifB (Nat.blt (a % m) h) (Int.negSucc (a % m)) (Int.ofNat (m - a % m - 1))) = _
  rcases blt_cases a h with ⟨e, g⟩ | ⟨e, g⟩
  · rw [e, if_pos g]; show Int.negSucc _ = _; rw [Int.negSucc_eq]; omega
  · rw [e, if_neg (by omega)]
    rcases blt_cases (a % m) h with ⟨e, g⟩ | ⟨e, g⟩
    · rw [e, if_pos g]; show Int.negSucc _ = _; rw [Int.negSucc_eq]; omega
    · rw [e, if_neg (by omega)]; rfl
theorem wrapU_ofNat (m a : Nat) : wrapU m (.ofNat a) = ((a % m : Nat) : Int) := rfl
theorem wrapU_negSucc (m a : Nat) : wrapU m (.negSucc a) = ((m - a % m - 1 : Nat) : Int) := rfl

theorem wrap_i8 (n : Int) : IntKind.wrap .i8 n = if 128 ≤ n % 256 then n % 256 - 256 else n % 256 := by
  have e1 : (2 ^ IntKind.bits .i8 : Int) = 256 := by decide
  have e2 : (2 ^ (IntKind.bits .i8 - 1) : Int) = 128 := by decide
  unfold IntKind.wrap
  rw [e1, e2]
  simp [IntKind.signed]
theorem wrapK_i8 (n : Int) : wrapK .i8 n = IntKind.wrap .i8 n := by
  rw [wrap_i8]
  cases n with
  | ofNat a => rw [show ∀ n, wrapK .i8 n = wrapS 128 256 n from fun _ => rfl]; rw [wrapS_ofNat, Int.ofNat_eq_natCast]; split <;> split <;> first | omega | (split <;> omega)
  | negSucc a => rw [show ∀ n, wrapK .i8 n = wrapS 128 256 n from fun _ => rfl]; rw [wrapS_negSucc, Int.negSucc_eq]; split <;> split <;> first | omega | (split <;> omega)
theorem wrap_i16 (n : Int) : IntKind.wrap .i16 n = if 32768 ≤ n % 65536 then n % 65536 - 65536 else n % 65536 := by
  have e1 : (2 ^ IntKind.bits .i16 : Int) = 65536 := by decide
  have e2 : (2 ^ (IntKind.bits .i16 - 1) : Int) = 32768 := by decide
  unfold IntKind.wrap
  rw [e1, e2]
  simp [IntKind.signed]
theorem wrapK_i16 (n : Int) : wrapK .i16 n = IntKind.wrap .i16 n := by
  rw [wrap_i16]
  cases n with
  | ofNat a => rw [show ∀ n, wrapK .i16 n = wrapS 32768 65536 n from fun _ => rfl]; rw [wrapS_ofNat, Int.ofNat_eq_natCast]; split <;> split <;> first | omega | (split <;> omega)
  | negSucc a => rw [show ∀ n, wrapK .i16 n = wrapS 32768 65536 n from fun _ => rfl]; rw [wrapS_negSucc, Int.negSucc_eq]; split <;> split <;> first | omega | (split <;> omega)
theorem wrap_i32 (n : Int) : IntKind.wrap .i32 n = if 2147483648 ≤ n % 4294967296 then n % 4294967296 - 4294967296 else n % 4294967296 := by
  have e1 : (2 ^ IntKind.bits .i32 : Int) = 4294967296 := by decide
  have e2 : (2 ^ (IntKind.bits .i32 - 1) : Int) = 2147483648 := by decide
  unfold IntKind.wrap
  rw [e1, e2]
  simp [IntKind.signed]
theorem wrapK_i32 (n : Int) : wrapK .i32 n = IntKind.wrap .i32 n := by
  rw [wrap_i32]
  cases n with
  | ofNat a => rw [show ∀ n, wrapK .i32 n = wrapS 2147483648 4294967296 n from fun _ => rfl]; rw [wrapS_ofNat, Int.ofNat_eq_natCast]; split <;> split <;> first | omega | (split <;> omega)
  | negSucc a => rw [show ∀ n, wrapK .i32 n = wrapS 2147483648 4294967296 n from fun _ => rfl]; rw [wrapS_negSucc, Int.negSucc_eq]; split <;> split <;> first | omega | (split <;> omega)
theorem wrap_i64 (n : Int) : IntKind.wrap .i64 n = if 9223372036854775808 ≤ n % 18446744073709551616 then n % 18446744073709551616 - 18446744073709551616 else n % 18446744073709551616 := by
  have e1 : (2 ^ IntKind.bits .i64 : Int) = 18446744073709551616 := by decide
  have e2 : (2 ^ (IntKind.bits .i64 - 1) : Int) = 9223372036854775808 := by decide
  unfold IntKind.wrap
  rw [e1, e2]
  simp [IntKind.signed]
theorem wrapK_i64 (n : Int) : wrapK .i64 n = IntKind.wrap .i64 n := by
  rw [wrap_i64]
  cases n with
  | ofNat a => rw [show ∀ n, wrapK .i64 n = wrapS 9223372036854775808 18446744073709551616 n from fun _ => rfl]; rw [wrapS_ofNat, Int.ofNat_eq_natCast]; split <;> split <;> first | omega | (split <;> omega)
  | negSucc a => rw [show ∀ n, wrapK .i64 n = wrapS 9223372036854775808 18446744073709551616 n from fun _ => rfl]; rw [wrapS_negSucc, Int.negSucc_eq]; split <;> split <;> first | omega | (split <;> omega)
theorem wrap_u8 (n : Int) : IntKind.wrap .u8 n = n % 256 := by
  have e1 : (2 ^ IntKind.bits .u8 : Int) = 256 := by decide
  unfold IntKind.wrap
  rw [e1]
  simp [IntKind.signed]
theorem wrapK_u8 (n : Int) : wrapK .u8 n = IntKind.wrap .u8 n := by
  rw [wrap_u8]
  cases n with
  | ofNat a => rw [show ∀ n, wrapK .u8 n = wrapU 256 n from fun _ => rfl]; rw [wrapU_ofNat, Int.ofNat_eq_natCast]; omega
  | negSucc a => rw [show ∀ n, wrapK .u8 n = wrapU 256 n from fun _ => rfl]; rw [wrapU_negSucc, Int.negSucc_eq]; omega
theorem wrap_u16 (n : Int) : IntKind.wrap .u16 n = n % 65536 := by
  have e1 : (2 ^ IntKind.bits .u16 : Int) = 65536 := by decide
  unfold IntKind.wrap
  rw [e1]
  simp [IntKind.signed]
theorem wrapK_u16 (n : Int) : wrapK .u16 n = IntKind.wrap .u16 n := by
  rw [wrap_u16]
  cases n with
  | ofNat a => rw [show ∀ n, wrapK .u16 n = wrapU 65536 n from fun _ => rfl]; rw [wrapU_ofNat, Int.ofNat_eq_natCast]; omega
  | negSucc a => rw [show ∀ n, wrapK .u16 n = wrapU 65536 n from fun _ => rfl]; rw [wrapU_negSucc, Int.negSucc_eq]; omega
theorem wrap_u32 (n : Int) : IntKind.wrap .u32 n = n % 4294967296 := by
  have e1 : (2 ^ IntKind.bits .u32 : Int) = 4294967296 := by decide
  unfold IntKind.wrap
  rw [e1]
  simp [IntKind.signed]
theorem wrapK_u32 (n : Int) : wrapK .u32 n = IntKind.wrap .u32 n := by
  rw [wrap_u32]
  cases n with
  | ofNat a => rw [show ∀ n, wrapK .u32 n = wrapU 4294967296 n from fun _ => rfl]; rw [wrapU_ofNat, Int.ofNat_eq_natCast]; omega
  | negSucc a => rw [show ∀ n, wrapK .u32 n = wrapU 4294967296 n from fun _ => rfl]; rw [wrapU_negSucc, Int.negSucc_eq]; omega
theorem wrap_u64 (n : Int) : IntKind.wrap .u64 n = n % 18446744073709551616 := by
  have e1 : (2 ^ IntKind.bits .u64 : Int) = 18446744073709551616 := by decide
  unfold IntKind.wrap
  rw [e1]
  simp [IntKind.signed]
theorem wrapK_u64 (n : Int) : wrapK .u64 n = IntKind.wrap .u64 n := by
  rw [wrap_u64]
  cases n with
  | ofNat a => rw [show ∀ n, wrapK .u64 n = wrapU 18446744073709551616 n from fun _ => rfl]; rw [wrapU_ofNat, Int.ofNat_eq_natCast]; omega
  | negSucc a => rw [show ∀ n, wrapK .u64 n = wrapU 18446744073709551616 n from fun _ => rfl]; rw [wrapU_negSucc, Int.negSucc_eq]; omega
theorem wrapK_eq (k : IntKind) (n : Int) : wrapK k n = k.wrap n := by
  cases k
  · exact wrapK_i8 n
  · exact wrapK_i16 n
  · exact wrapK_i32 n
  · exact wrapK_i64 n
  · exact wrapK_u8 n
  · exact wrapK_u16 n
  · exact wrapK_u32 n
  · exact wrapK_u64 n
end Go.Proofs.YtpochibfjpanhaaGreat.Exe
