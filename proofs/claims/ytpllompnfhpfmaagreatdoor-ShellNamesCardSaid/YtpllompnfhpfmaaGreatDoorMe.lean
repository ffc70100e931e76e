/- A part of the machine that reckons a closed run, and of the proof that what it says the given program does. No conditions. -/
import Derived.Test.YtpllompnfhpfmaaGreatDoorMd
import Derived.Laws.Small
import Derived.ChangeKeysEq
import Derived.Laws.StructEq
import Derived.Laws.Strings
set_option linter.unusedVariables false
set_option linter.unusedSimpArgs false
namespace Go.Proofs.YtpllompnfhpfmaaGreatDoor.Exe
open Go
variable {Lg : Laid} {base : Base Lg} {w : World} {P : Program} {ρ : Rho} {S : AS} {t : T} {e : Operand → Value} {o : Oper} {c : K} {z : AV × Option AS}

theorem inK_some {k : IntKind} {n : Int} {v : AV} (h : inK k n = some v) : v = .int k (k.wrap n) := by
  rw [inK_eq, wrapK_eq] at h
  exact (Option.some.inj h).symm
theorem bitsK_eq (k : IntKind) : bitsK k = k.bits := by cases k <;> rfl
theorem limK_le (k : IntKind) : limK k ≤ 2 ^ k.bits := by cases k <;> decide
theorem wrap_small {k : IntKind} {n : Nat} (h : n < limK k) : k.wrap n = n := by
  cases k
  · have h : n < 128 := h; rw [wrap_i8]; split <;> omega
  · have h : n < 32768 := h; rw [wrap_i16]; split <;> omega
  · have h : n < 2147483648 := h; rw [wrap_i32]; split <;> omega
  · have h : n < 9223372036854775808 := h; rw [wrap_i64]; split <;> omega
  · have h : n < 256 := h; rw [wrap_u8]; omega
  · have h : n < 65536 := h; rw [wrap_u16]; omega
  · have h : n < 4294967296 := h; rw [wrap_u32]; omega
  · have h : n < 18446744073709551616 := h; rw [wrap_u64]; omega
theorem bv_small {k : IntKind} {a : Nat} (h : a < limK k) : (BitVec.ofInt k.bits (a : Int)).toNat = a := by
  have := limK_le k
  rw [BitVec.toNat_ofInt]
  have h2 : ((2 ^ k.bits : Nat) : Int) ≠ 0 := by have := Nat.pow_pos (a := 2) (n := k.bits) (by omega); omega
  rw [← Int.natCast_emod, Int.toNat_natCast, Nat.mod_eq_of_lt (by omega)]
theorem land_lt {a b l : Nat} (h : a < l) : Nat.land a b < l := Nat.lt_of_le_of_lt (Nat.and_le_left) h
theorem lim_pow (k : IntKind) : ∃ n, limK k = 2 ^ n := by
  cases k
  · exact ⟨7, rfl⟩
  · exact ⟨15, rfl⟩
  · exact ⟨31, rfl⟩
  · exact ⟨63, rfl⟩
  · exact ⟨8, rfl⟩
  · exact ⟨16, rfl⟩
  · exact ⟨32, rfl⟩
  · exact ⟨64, rfl⟩
theorem lor_lt {k : IntKind} {a b : Nat} (h : a < limK k) (g : b < limK k) : Nat.lor a b < limK k := by
  obtain ⟨n, e⟩ := lim_pow k
  rw [e] at h g ⊢
  exact Nat.or_lt_two_pow h g
theorem xor_lt {k : IntKind} {a b : Nat} (h : a < limK k) (g : b < limK k) : Nat.xor a b < limK k := by
  obtain ⟨n, e⟩ := lim_pow k
  rw [e] at h g ⊢
  exact Nat.xor_lt_two_pow h g

theorem bit2_some {f : Nat → Nat → Nat} {k : IntKind} {a b : Int} {v : AV} (h : bit2 f k a b = some v) : ∃ m n : Nat, a = m ∧ b = n ∧ m < limK k ∧ n < limK k ∧ v = .int k (f m n : Nat) := by
  obtain ⟨m, rfl, h3⟩ := onNatI_some h
  obtain ⟨n, rfl, h4⟩ := onNatI_some h3
  obtain ⟨h1, h5⟩ := ifB_some h4
  obtain ⟨h2, h⟩ := ifB_some h5
  rw [forceN_eq] at h
  have g1 : m < limK k := Nat.lt_of_lt_of_le (Nat.lt_succ_self m) (ble_true h1)
  have g2 : n < limK k := Nat.lt_of_lt_of_le (Nat.lt_succ_self n) (ble_true h2)
  exact ⟨m, n, rfl, rfl, g1, g2, (Option.some.inj h).symm⟩

theorem ltK_eq (a b : Int) : ltK a b = decide (a < b) := by
  cases a <;> cases b
  · rename_i m n
    show Nat.blt m n = _
    rcases blt_cases m n with ⟨e, g⟩ | ⟨e, g⟩
    · rw [e]; symm; rw [decide_eq_true_eq]; show (m : Int) < n; omega
    · rw [e]; symm; rw [decide_eq_false_iff_not]; show ¬ (m : Int) < n; omega
  · rename_i m n
    show false = _
    symm; rw [decide_eq_false_iff_not]; show ¬ (m : Int) < _; rw [Int.negSucc_eq]; omega
  · rename_i m n
    show true = _
    symm; rw [decide_eq_true_eq]; show _ < (n : Int); rw [Int.negSucc_eq]; omega
  · rename_i m n
    show Nat.blt n m = _
    rcases blt_cases n m with ⟨e, g⟩ | ⟨e, g⟩
    · rw [e]; symm; rw [decide_eq_true_eq, Int.negSucc_eq, Int.negSucc_eq]; omega
    · rw [e]; symm; rw [decide_eq_false_iff_not, Int.negSucc_eq, Int.negSucc_eq]; omega
theorem beq_dec (m n : Nat) : Nat.beq m n = decide (m = n) := by
  cases h : Nat.beq m n with
  | true => symm; rw [decide_eq_true_eq]; exact beq_true h
  | false => symm; rw [decide_eq_false_iff_not]; exact beq_false h
theorem eqK_eq (a b : Int) : eqK a b = decide (a = b) := by
  cases a <;> cases b
  · rename_i m n
    show Nat.beq m n = _
    rw [beq_dec]
    rw [decide_eq_decide]
    constructor
    · intro h; rw [h]
    · intro h; exact Int.ofNat.inj h
  · rename_i m n; show false = _; symm; rw [decide_eq_false_iff_not]; intro h; cases h
  · rename_i m n; show false = _; symm; rw [decide_eq_false_iff_not]; intro h; cases h
  · rename_i m n
    show Nat.beq m n = _
    rw [beq_dec]
    simp
theorem le_dec (a b : Int) : decide (a ≤ b) = !decide (b < a) := by
  by_cases h : b < a
  · rw [decide_eq_true h]; rw [decide_eq_false_iff_not.2 (by omega)]; rfl
  · rw [decide_eq_false h, decide_eq_true (by omega)]; rfl
theorem ifB_not (b : Bool) : ifB b false true = !b := by cases b <;> rfl

/-- Two numbers of one kind. -/
theorem int_bin {op : BinOp} {ty : TypeId} {k : IntKind} {a b : Int} {v : AV} (h : intOp op k a b = some v) (hs : isShift op = false) : ∃ u, Den ρ v u ∧ (binOp op ty (.int k a) (.int k b)).run P w = .ok u w := by
  cases op
  · have := inK_some ((iAdd_eq k a b).symm.trans h); subst this; exact ⟨_, .int _ _, by simp [binOp, Op.intArith]⟩
  · have := inK_some ((iSub_eq k a b).symm.trans h); subst this; exact ⟨_, .int _ _, by simp [binOp, Op.intArith]⟩
  · have := inK_some ((iMul_eq k a b).symm.trans h); subst this; exact ⟨_, .int _ _, by simp [binOp, Op.intArith]⟩
  · obtain ⟨m, rfl, h⟩ := onNatI_some (show onNatI a _ = some v from h)
    obtain ⟨n, rfl, h⟩ := onNatI_some h
    rcases ifB_or h with ⟨_, h⟩ | ⟨h0, h⟩
    · cases h
    · have h0 := beq_false h0
      have := inK_some h; subst this
      refine ⟨_, .int _ _, ?_⟩
      have e1 : (Int.tdiv (m : Int) (n : Int)) = ((m / n : Nat) : Int) := rfl
      simp [binOp, Op.intDiv, h0, e1]
      rfl
  · obtain ⟨m, rfl, h⟩ := onNatI_some (show onNatI a _ = some v from h)
    obtain ⟨n, rfl, h⟩ := onNatI_some h
    rcases ifB_or h with ⟨_, h⟩ | ⟨h0, h⟩
    · cases h
    · have h0 := beq_false h0
      rw [forceN_eq] at h
      cases h
      refine ⟨_, .int _ _, ?_⟩
      have e1 : (Int.tmod (m : Int) (n : Int)) = ((m % n : Nat) : Int) := rfl
      simp [binOp, Op.intDiv, h0, e1]
      rfl
  · obtain ⟨m, n, rfl, rfl, h1, h2, rfl⟩ := bit2_some (show bit2 Nat.land k a b = some v from h)
    refine ⟨_, .int _ _, ?_⟩
    have e1 : (BitVec.ofInt k.bits (m : Int) &&& BitVec.ofInt k.bits (n : Int)).toNat = Nat.land m n := by rw [BitVec.toNat_and, bv_small h1, bv_small h2]; rfl
    simp only [binOp, ne_eq, not_true_eq_false, if_false, Op.intBits, e1, wrap_small (land_lt h1)]
    rfl
  · obtain ⟨m, n, rfl, rfl, h1, h2, rfl⟩ := bit2_some (show bit2 Nat.lor k a b = some v from h)
    refine ⟨_, .int _ _, ?_⟩
    have e1 : (BitVec.ofInt k.bits (m : Int) ||| BitVec.ofInt k.bits (n : Int)).toNat = Nat.lor m n := by rw [BitVec.toNat_or, bv_small h1, bv_small h2]; rfl
    simp only [binOp, ne_eq, not_true_eq_false, if_false, Op.intBits, e1, wrap_small (lor_lt h1 h2)]
    rfl
  · obtain ⟨m, n, rfl, rfl, h1, h2, rfl⟩ := bit2_some (show bit2 Nat.xor k a b = some v from h)
    refine ⟨_, .int _ _, ?_⟩
    have e1 : (BitVec.ofInt k.bits (m : Int) ^^^ BitVec.ofInt k.bits (n : Int)).toNat = Nat.xor m n := by rw [BitVec.toNat_xor, bv_small h1, bv_small h2]; rfl
    simp only [binOp, ne_eq, not_true_eq_false, if_false, Op.intBits, e1, wrap_small (xor_lt h1 h2)]
    rfl
  · cases hs
  · cases hs
  · obtain ⟨m, n, rfl, rfl, h1, h2, rfl⟩ := bit2_some (show bit2 (fun a b => Nat.land a (Nat.xor b (2 ^ bitsK k - 1))) k a b = some v from h)
    refine ⟨_, .int _ _, ?_⟩
    have e1 : (BitVec.ofInt k.bits (m : Int) &&& ~~~ BitVec.ofInt k.bits (n : Int)).toNat = Nat.land m (Nat.xor n (2 ^ bitsK k - 1)) := by
      rw [BitVec.toNat_and, ← BitVec.xor_allOnes, BitVec.toNat_xor, BitVec.toNat_allOnes, bv_small h1, bv_small h2, bitsK_eq]; rfl
    simp only [binOp, ne_eq, not_true_eq_false, if_false, Op.intBits, e1, wrap_small (land_lt h1)]
    rfl
  · cases h; exact ⟨_, .bool _, by simp [binOp, Op.intCmp, eqK_eq]; rfl⟩
  · cases h; exact ⟨_, .bool _, by simp [binOp, Op.intCmp, eqK_eq, ifB_not]; rfl⟩
  · cases h; exact ⟨_, .bool _, by simp [binOp, Op.intCmp, ltK_eq]⟩
  · cases h; exact ⟨_, .bool _, by simp [binOp, Op.intCmp, ltK_eq, ifB_not, le_dec]⟩
  · cases h; exact ⟨_, .bool _, by simp [binOp, Op.intCmp, ltK_eq]⟩
  · cases h; exact ⟨_, .bool _, by simp [binOp, Op.intCmp, ltK_eq, ifB_not, le_dec]⟩
end Go.Proofs.YtpllompnfhpfmaaGreatDoor.Exe
namespace Go.Proofs.YtpllompnfhpfmaaGreatDoor.Exe
open Go
variable {Lg : Laid} {base : Base Lg} {w : World} {P : Program} {ρ : Rho} {S : AS} {t : T} {e : Operand → Value} {o : Oper} {c : K} {z : AV × Option AS}

theorem eqGuard_int (op : BinOp) (ty : TypeId) (x y : Operand) (k j : IntKind) (a b : Int) : (eqGuard op ty x y (.int k a) (.int j b)).run P w = .ok () w := by
  cases op <;> rfl

theorem int_shift {op : BinOp} {ty : TypeId} {k j : IntKind} {a b : Int} {v : AV} (h : intOp op k a b = some v) (hs : isShift op = true) : ∃ u, Den ρ v u ∧ (binOp op ty (.int k a) (.int j b)).run P w = .ok u w := by
  cases op <;> first | exact Bool.noConfusion (show false = true from hs) | skip
  · obtain ⟨n, rfl, h1⟩ := onNatI_some (show onNatI b _ = some v from h)
    obtain ⟨h2, h3⟩ := ifB_some h1
    have h2 := ble_true h2
    rw [bitsK_eq] at h2
    have := inK_some (show inK k (a * (Int.ofNat (Nat.pow 2 n))) = some v by cases a <;> exact h3)
    subst this
    refine ⟨_, .int _ _, ?_⟩
    have e1 : min n k.bits = n := Nat.min_eq_left h2
    have e2 : ((2 ^ n : Nat) : Int) = 2 ^ n := by simp
    have e4 : ¬ ((n : Int) < 0) := by omega
    simp [binOp, Op.shift, e1, e4]
  · obtain ⟨m, rfl, h0⟩ := onNatI_some (show onNatI a _ = some v from h)
    obtain ⟨n, rfl, h1⟩ := onNatI_some h0
    obtain ⟨h2, h3⟩ := ifB_some h1
    have h2 := ble_true h2
    rw [bitsK_eq] at h2
    rw [forceN_eq] at h3
    cases h3
    refine ⟨_, .int _ _, ?_⟩
    have e1 : min n k.bits = n := Nat.min_eq_left h2
    have e2 : Int.fdiv (m : Int) (2 ^ n) = ((m / 2 ^ n : Nat) : Int) := by
      rw [show ((2 : Int) ^ n) = ((2 ^ n : Nat) : Int) by simp, Int.ofNat_fdiv]
    have e4 : ¬ ((n : Int) < 0) := by omega
    simp [binOp, Op.shift, e1, e2, e4]
    rfl

theorem binK_some {op : BinOp} {x y : AV} {ty : TypeId} {v : AV} {a b : Value} (h : binK op x y = some v) (dx : Den ρ x a) (dy : Den ρ y b) (ox oy : Operand) :
    ∃ u, Den ρ v u ∧ (eqGuard op ty ox oy a b).run P w = .ok () w ∧ (binOp op ty a b).run P w = .ok u w := by
  obtain ⟨k, m, rfl, h1⟩ := onInt_some h
  obtain ⟨j, n, rfl, h2⟩ := onInt_some h1
  clear h h1
  have h := h2
  clear h2
  rw [forceK_eq] at h
  cases dx
  cases dy
  rcases ifB_or h with ⟨hs, h⟩ | ⟨hs, h⟩
  · obtain ⟨u, hu, hr⟩ := int_shift (P := P) (w := w) (ρ := ρ) (ty := ty) (j := j) h hs
    exact ⟨u, hu, eqGuard_int op ty ox oy k j m n, hr⟩
  · obtain ⟨hk, h9⟩ := ifB_some h
    have := kindNo_inj hk
    subst this
    obtain ⟨u, hu, hr⟩ := int_bin (P := P) (w := w) (ρ := ρ) (ty := ty) h9 hs
    exact ⟨u, hu, eqGuard_int op ty ox oy k k m n, hr⟩

theorem s_bin {op : BinOp} {ty yt : TypeId} {x y : Operand} {x' y' : AR} (ho : o.op = .binOp op ty x y yt) (hx : ofOperand x = some x') (hy : ofOperand y = some y') (he : EvRel ρ t e) (hw : WRel base ρ S w)
    (h : kBin op x' y' t S c = some z) : OpVal P ρ S e o w c z := by
  obtain ⟨v, hv, h⟩ := retO_some h
  obtain ⟨u, hu, h1, h2⟩ := binK_some (P := P) (w := w) (ty := ty) hv (he x x' hx) (he y y' hy) x y
  exact .pure h hw hu (by simp [execOp, ho, h1, h2])

theorem s_un {op : UnOp} {ty : TypeId} {x : Operand} {x' : AR} (ho : o.op = .unOp op ty x) (hx : ofOperand x = some x') (he : EvRel ρ t e) (hw : WRel base ρ S w) (h : kUn op x' t S c = some z) : OpVal P ρ S e o w c z := by
  obtain ⟨v, hv, h⟩ := retO_some h
  have hdx := he x x' hx
  cases op
  · obtain ⟨k, n, e1, h1⟩ := onInt_some (show uNeg _ = some v from hv)
    have := inK_some h1
    subst this
    rw [e1] at hdx
    generalize hex : e x = ex at hdx
    cases hdx
    have e9 : Int.sub 0 n = -n := by show 0 - n = -n; omega
    rw [e9] at h
    exact .pure h hw (.int _ _) (by simp [execOp, ho, hex, Op.unary, Op.intArith])
  · obtain ⟨k, n, e1, h1⟩ := onInt_some (show uXor _ = some v from hv)
    obtain ⟨h2, h3⟩ := ifB_some h1
    obtain ⟨m, rfl, h4⟩ := onNatI_some h3
    obtain ⟨h5, h6⟩ := ifB_some h4
    cases h6
    rw [e1] at hdx
    generalize hex : e x = ex at hdx
    cases hdx
    have h2 := ble_true h2
    have h5 : m < limK k := Nat.lt_of_lt_of_le (Nat.lt_succ_self m) (ble_true h5)
    have key : (BitVec.ofInt k.bits (if k.signed then -1 else k.max) ^^^ BitVec.ofInt k.bits (m : Int)).toNat = limK k - 1 - m := by
      have e2 : BitVec.ofInt k.bits (if k.signed then -1 else k.max) = BitVec.allOnes k.bits ∧ limK k = 2 ^ k.bits := by
        cases k <;> first | exact absurd h2 (by decide) | exact ⟨by decide, rfl⟩
      rw [e2.1, BitVec.allOnes_xor, BitVec.toNat_not, bv_small h5, e2.2]
    have hsm : limK k - 1 - m < limK k := by omega
    have e3 : (execOp e o).run P w = .ok (.value (.int k (Int.ofNat (limK k - 1 - m)))) w := by
      simp only [execOp, ho, hex, Op.unary, Op.intBits, key, wrap_small hsm]
      rfl
    exact .pure h hw (.int _ _) e3
  · obtain ⟨b, e1, h1⟩ := onBool_some (show uNot _ = some v from hv)
    cases h1
    rw [e1] at hdx
    generalize hex : e x = ex at hdx
    cases hdx
    rw [ifB_not] at h
    exact .pure h hw (.bool _) (by simp [execOp, ho, hex, Op.unary])
  · cases hv

theorem s_toInt {sr dst : TypeId} {x : Operand} {x' : AR} {j k : IntKind} (ho : o.op = .convert sr dst x) (hs : P.underlying sr = some (.int j)) (hd : P.underlying dst = some (.int k)) (hx : ofOperand x = some x') (he : EvRel ρ t e) (hw : WRel base ρ S w)
    (h : kToInt k x' t S c = some z) : OpVal P ρ S e o w c z := by
  obtain ⟨i, n, e1, h⟩ := onInt_some h
  obtain ⟨v, hv, h⟩ := retO_some h
  have := inK_some hv
  subst this
  have hdx := he x x' hx
  rw [e1] at hdx
  generalize hex : e x = ex at hdx
  cases hdx
  exact .pure h hw (.int _ _) (by simp [execOp, ho, hex, convert, run_underlying hs, run_underlying hd, Conv.intToInt])
end Go.Proofs.YtpllompnfhpfmaaGreatDoor.Exe
namespace Go.Proofs.YtpllompnfhpfmaaGreatDoor.Exe
open Go
variable {Lg : Laid} {base : Base Lg} {w : World} {P : Program} {ρ : Rho} {S : AS} {t : T} {e : Operand → Value} {o : Oper} {c : K} {z : AV × Option AS}

theorem s_field {ty : TypeId} {x : Operand} {x' : AR} {i n : Nat} {fs : Array Field} {f : Field} {d : TypeDesc} (ho : o.op = .field ty x i) (hu : P.underlying ty = some (.struct fs)) (hf : fs[i]? = some f) (hd : P.underlying f.type = some d) (hn : (P.info? f.type).map (·.size) = some n)
    (hx : ofOperand x = some x') (he : EvRel ρ t e) (hw : WRel base ρ S w) (h : kField (aggT P f.type) f.offset n x' t S c = some z) : OpVal P ρ S e o w c z := by
  obtain ⟨cs, hv, h⟩ := onAgg_some h
  obtain ⟨v, hval, h⟩ := retO_some h
  have hdx := he x x' hx
  rw [hv] at hdx
  generalize hex : e x = ex at hdx
  obtain ⟨us, rfl, hc, _⟩ := row_cells hdx
  cases hq : P.info? f.type with
  | none => rw [hq] at hn; cases hn
  | some ti =>
    have hsz : ti.size = n := by rw [hq] at hn; simpa using hn
    rcases valueK_some hc hval with ⟨ha, hlen, hden⟩ | ⟨ha, u, hu', hden, _⟩
    · obtain ⟨d', hd', hrow⟩ := aggT_true ha
      have hagg : (isAgg f.type).run P w = .ok true w := by
        unfold isAgg
        rw [Sem.run_bind, run_underlying hd' w]
        cases d' <;> first | rfl | cases hrow
      have e1 : us.toArray.extract f.offset (f.offset + n) = ((us.drop f.offset).take n).toArray := by
        simp
      exact .pure h hw hden (by simp [execOp, ho, hex, Instr.field, run_underlying hu, hf, asAgg, part, hagg, sizeOf, typeInfo, hq, hsz])
    · exact .pure h hw hden (by simp [execOp, ho, hex, Instr.field, run_underlying hu, hf, asAgg, part, run_isAgg_false hd ha, hu'])

theorem s_makeFunc {f : FuncId} {a b : Array Operand} {a' b' : List AR} (ho : o.op = .makeFunc (.func f) a b) (ha : ofOperands a.toList = some a') (hb : ofOperands b.toList = some b') (he : EvRel ρ t e) (hw : WRel base ρ S w)
    (h : kMakeFunc f a' b' t S c = some z) : OpVal P ρ S e o w c z := by
  have key : ∀ (l : List Operand) (l' : List AR), ofOperands l = some l' → DenL ρ (evs l' t) (l.map e) := by
    intro l
    induction l with
    | nil => intro l' h; cases h; exact .nil
    | cons x r ih =>
      intro l' h
      unfold ofOperands at h
      cases hx : ofOperand x with
      | none => rw [hx] at h; cases h
      | some y =>
        rw [hx] at h
        cases hr : ofOperands r with
        | none => rw [hr] at h; cases h
        | some r' => rw [hr] at h; cases h; exact .cons (he x y hx) (ih r' hr)
  have d := Den.fn (f := f) (key _ _ ha) (key _ _ hb)
  have m1 : ∀ q : Array Operand, Array.map e q = (List.map e q.toList).toArray := fun q => by apply Array.toList_inj.1; simp
  exact .pure h hw d (by simp only [execOp, ho, Instr.makeFunc, m1]; rfl)

theorem s_makeIface {ty : TypeId} {x : Operand} {x' : AR} {d : TypeDesc} (ho : o.op = .makeInterface ty x) (hu : P.underlying ty = some d) (hd : ∀ ms, d ≠ .interface ms) (hx : ofOperand x = some x') (he : EvRel ρ t e) (hw : WRel base ρ S w) (h : kMakeIface ty x' t S c = some z) : OpVal P ρ S e o w c z :=
  .pure h hw (.ifc (he x x' hx)) (by
    simp only [execOp, ho, Instr.makeInterface, Sem.run_bind, run_underlying hu, Result.andThen_ok]
    cases d <;> first | rfl | exact absurd rfl (hd _))

theorem s_tassert {ty xt : TypeId} {x : Operand} {x' : AR} {ok : Bool} {d : TypeDesc} {zv : Value} {za : AV} {ti : TypeInfo} (ho : o.op = .typeAssert x xt ty ok) (hu : P.underlying ty = some d) (hd : ∀ ms, d ≠ .interface ms) (hi : P.info? ty = some ti) (hz : ti.zero = some zv) (hzd : Den ρ za zv)
    (hx : ofOperand x = some x') (he : EvRel ρ t e) (hw : WRel base ρ S w) (h : kTassert ty za ok x' t S c = some z) : OpVal P ρ S e o w c z := by
  have hdx := he x x' hx
  have key : ∀ v : Value, Sem.run P (Instr.typeAssert v xt ty ok) w = Sem.run P (match v with
      | .nilIface => if ok then (do pure (.tuple #[← zeroValue ty, .bool false])) else runtimePanic (.typeAssertion (some xt) none ty "")
      | .iface t v => if t = ty then pure (if ok then .tuple #[v, .bool true] else v) else if ok then (do pure (.tuple #[← zeroValue ty, .bool false])) else runtimePanic (.typeAssertion (some xt) (some t) ty "")
      | _ => stuck "TypeAssert: interface value expected") w := fun v => by
    unfold Instr.typeAssert
    simp only [Sem.run_bind, run_underlying hu, Result.andThen_ok]
    cases d <;> first | exact absurd rfl (hd _) | (cases v <;> rfl)
  have hzr : (zeroValue ty).run P w = .ok zv w := by simp [zeroValue, typeInfo, hi, hz]
  rcases ifB_or h with ⟨h0, h1⟩ | ⟨_, h1⟩
  · have hnil : ev x' t = .inil := by
      have := beq_true h0
      generalize ev x' t = v at this
      cases v <;> first | rfl | (exact absurd (show (_ : Nat) = 5 from this) (by first | decide | (intro h; cases h)))
    rw [hnil] at hdx
    generalize hex : e x = ex at hdx
    cases hdx
    obtain ⟨hok, h1⟩ := ifB_some h1
    subst hok
    refine .pure (u := .tuple #[zv, .bool false]) h1 hw (.tup (.cons hzd (.cons (.bool _) .nil))) ?_
    simp [execOp, ho, hex, key, hzr]
  · obtain ⟨u, y, hv, h2⟩ := onIfc_some h1
    rw [hv] at hdx
    generalize hex : e x = ex at hdx
    cases hdx with
    | ifc dy =>
      rcases ifB_or h2 with ⟨h3, h4⟩ | ⟨h3, h4⟩
      · have h3 := beq_true h3
        subst h3
        cases ok with
        | true =>
          refine .pure h4 hw (.tup (.cons dy (.cons (.bool _) .nil))) ?_
          simp [execOp, ho, hex, key]
        | false =>
          refine .pure h4 hw dy ?_
          simp [execOp, ho, hex, key]
      · have h3 := beq_false h3
        obtain ⟨hok, h4⟩ := ifB_some h4
        subst hok
        refine .pure (u := .tuple #[zv, .bool false]) h4 hw (.tup (.cons hzd (.cons (.bool _) .nil))) ?_
        simp [execOp, ho, hex, key, hzr, h3]

theorem s_s2ap {ty el : TypeId} {x : Operand} {x' : AR} {n : Nat} (ho : o.op = .sliceToArrayPointer ty x) (hu : P.underlying ty = some (.array n el)) (hx : ofOperand x = some x') (he : EvRel ρ t e) (hw : WRel base ρ S w) (h : kS2ap n x' t S c = some z) : OpVal P ρ S e o w c z := by
  obtain ⟨b, off, len, cap, op, hv, h⟩ := onSl_some h
  rcases ifB_or h with ⟨_, h⟩ | ⟨h0, h⟩
  · cases h
  have h0 := beq_false h0
  obtain ⟨h1, h⟩ := ifB_some h
  have h1 := ble_true h1
  have hdx := he x x' hx
  rw [hv] at hdx
  generalize hex : e x = ex at hdx
  cases hdx with
  | @sl _ _ _ _ r q _ hρ =>
    have h2 : ¬ len < n := by omega
    exact .pure h hw (.ptr hρ) (by simp [execOp, ho, hex, Instr.arrayAt, run_underlying hu, h2])
  | sl0 => exact absurd rfl h0
end Go.Proofs.YtpllompnfhpfmaaGreatDoor.Exe
namespace Go.Proofs.YtpllompnfhpfmaaGreatDoor.Exe
open Go
variable {Lg : Laid} {base : Base Lg} {w : World} {P : Program} {ρ : Rho} {S : AS} {t : T} {e : Operand → Value} {o : Oper} {c : K} {z : AV × Option AS}

inductive OptRel (ρ : Rho) : Option AV → Option Value → Prop where
  | none : OptRel ρ none none
  | some {a : AV} {u : Value} : Den ρ a u → OptRel ρ (some a) (some u)

theorem evO_rel {x : Option Operand} {y : Option AR} (h : ofOpt x = some y) (he : EvRel ρ t e) : OptRel ρ (evO y t) (x.map e) := by
  cases x with
  | none => cases h; exact .none
  | some a =>
    cases ha : ofOperand a with
    | none => simp [ofOpt, ha] at h
    | some b => simp [ofOpt, ha] at h; subst h; exact .some (he a b ha)

theorem boundK_some {R : Type} {y : Nat} {v : AV} {k : Nat → Option R} {r : R} (h : boundK y v k = some r) : ∃ (kd : IntKind) (m : Nat), v = .int kd m ∧ m ≤ y ∧ k m = some r := by
  obtain ⟨kd, m, rfl, h1⟩ := onNat_some h
  obtain ⟨h2, h3⟩ := ifB_some h1
  exact ⟨kd, m, rfl, ble_true h2, h3⟩
theorem run_sliceBound (kd : IntKind) (m y : Nat) (code : BoundsCode) (h : m ≤ y) : (Instr.sliceBound (.int kd m) y code).run P w = .ok m w := by
  simp [Instr.sliceBound, asIntOf, h]

theorem bounds_some {R : Type} {sl : Bool} {len cap C : Nat} {lo hi mx : Option AV} {lo' hi' mx' : Option Value} {k : Nat → Nat → Nat → Option R} {r : R} (hC : cap ≤ C) (hlo : OptRel ρ lo lo') (hhi : OptRel ρ hi hi') (hmx : OptRel ρ mx mx')
    (h : boundsK len cap lo hi mx k = some r) : ∃ l h m m', k l h m = some r ∧ (Instr.sliceBounds sl len C lo' hi' mx').run P w = .ok (l, h, m') w ∧ ((mx = none ∧ m = cap ∧ m' = C) ∨ (isNone mx = false ∧ m' = m)) ∧ (len = 0 → cap = 0 → l = 0 ∧ h = 0 ∧ m = 0) := by
  cases hmx with
  | none =>
    have h : optB hi len cap (fun h => optB lo 0 h fun l => k l h cap) = some r := h
    cases hhi with
    | none =>
      have h : optB lo 0 len (fun l => k l len cap) = some r := h
      cases hlo with
      | none => exact ⟨0, len, cap, C, h, by simp [Instr.sliceBounds], .inl ⟨rfl, rfl, rfl⟩, by intro _ _; omega⟩
      | some d =>
        obtain ⟨kd, m, rfl, h1, h2⟩ := boundK_some (show boundK len _ _ = some r from h)
        cases d
        exact ⟨m, len, cap, C, h2, by simp [Instr.sliceBounds, run_sliceBound kd m len _ h1], .inl ⟨rfl, rfl, rfl⟩, by intro _ _; omega⟩
    | some dh =>
      obtain ⟨kh, n, rfl, g1, g2⟩ := boundK_some (show boundK cap _ _ = some r from h)
      cases dh
      cases hlo with
      | none => exact ⟨0, n, cap, C, g2, by simp [Instr.sliceBounds, run_sliceBound kh n C _ (Nat.le_trans g1 hC)], .inl ⟨rfl, rfl, rfl⟩, by intro _ _; omega⟩
      | some d =>
        obtain ⟨kd, m, rfl, h1, h2⟩ := boundK_some (show boundK n _ _ = some r from g2)
        cases d
        exact ⟨m, n, cap, C, h2, by simp [Instr.sliceBounds, run_sliceBound kh n C _ (Nat.le_trans g1 hC), run_sliceBound kd m n _ h1], .inl ⟨rfl, rfl, rfl⟩, by intro _ _; omega⟩
  | some dm =>
    obtain ⟨km, q, rfl, f1, f2⟩ := boundK_some (show boundK cap _ _ = some r from h)
    cases dm
    cases hhi with
    | none => cases f2
    | some dh =>
      obtain ⟨kh, n, rfl, g1, g2⟩ := boundK_some (show boundK q _ _ = some r from f2)
      cases dh
      cases hlo with
      | none => exact ⟨0, n, q, q, g2, by simp [Instr.sliceBounds, run_sliceBound km q C _ (Nat.le_trans f1 hC), run_sliceBound kh n q _ g1], .inr ⟨rfl, rfl⟩, by intro _ _; omega⟩
      | some d =>
        obtain ⟨kd, m, rfl, h1, h2⟩ := boundK_some (show boundK n _ _ = some r from g2)
        cases d
        exact ⟨m, n, q, q, h2, by simp [Instr.sliceBounds, run_sliceBound km q C _ (Nat.le_trans f1 hC), run_sliceBound kh n q _ g1, run_sliceBound kd m n _ h1], .inr ⟨rfl, rfl⟩, by intro _ _; omega⟩

theorem cutK_some {b off es l h m : Nat} {op : Bool} (hh : cutK b off es l h m op S c = some z) : c (.sl b (if m = l then off else off + l * es) (h - l) (m - l) op) S = some z := by
  unfold cutK at hh
  rw [forceN_eq, forceN_eq, forceN_eq, ifBeq] at hh
  exact hh

theorem s_sliceArray {ty el : TypeId} {x : Operand} {lo hi mx : Option Operand} {x' : AR} {lo' hi' mx' : Option AR} {n es : Nat} (ho : o.op = .slice ty x lo hi mx) (hu : P.underlying ty = some (.array n el)) (hn : (P.info? el).map (·.size) = some es)
    (hx : ofOperand x = some x') (hlo : ofOpt lo = some lo') (hhi : ofOpt hi = some hi') (hmx : ofOpt mx = some mx') (he : EvRel ρ t e) (hw : WRel base ρ S w)
    (h : kSliceArray n es x' lo' hi' mx' t S c = some z) : OpVal P ρ S e o w c z := by
  obtain ⟨b, off, hv, h⟩ := onPtr_some h
  have hdx := he x x' hx
  rw [hv] at hdx
  generalize hex : e x = ex at hdx
  cases hdx with
  | @ptr _ _ r q hρ =>
    obtain ⟨l, hh, m, m', hk, hrun, hm, _⟩ := bounds_some (P := P) (w := w) (sl := false) (C := n) (Nat.le_refl n) (evO_rel hlo he) (evO_rel hhi he) (evO_rel hmx he) h
    have hmm : m' = m := by rcases hm with ⟨_, a, b⟩ | ⟨_, a⟩ <;> omega
    subst hmm
    have hk := cutK_some hk
    cases hq : P.info? el with
    | none => rw [hq] at hn; cases hn
    | some ti =>
      have hsz : ti.size = es := by rw [hq] at hn; simpa using hn
      have d := Den.sl (len := hh - l) (cap := m' - l) (op := false) (o := if m' = l then off else off + l * es) hρ
      refine .pure hk hw d ?_
      have e1 : (⟨r, off, none⟩ : Addr).add (l * es) = ⟨r, off + l * es, none⟩ := Addr.add_mid r off (l * es)
      by_cases hml : m' = l
      · simp [execOp, ho, hex, Instr.sliceAt, run_underlying hu, Instr.sureAddr, hrun, sizeOf, typeInfo, hq, hsz, hml]
      · simp [execOp, ho, hex, Instr.sliceAt, run_underlying hu, Instr.sureAddr, hrun, sizeOf, typeInfo, hq, hsz, hml, e1]

theorem isSnil_true {v : AV} (h : isSnil v = true) : v = .snil := by
  cases v <;> first | rfl | exact Bool.noConfusion (show false = true from h)

theorem s_sliceSlice {ty el : TypeId} {x : Operand} {lo hi mx : Option Operand} {x' : AR} {lo' hi' mx' : Option AR} {es : Nat} (ho : o.op = .slice ty x lo hi mx) (hu : P.underlying ty = some (.slice el)) (hn : (P.info? el).map (·.size) = some es)
    (hx : ofOperand x = some x') (hlo : ofOpt lo = some lo') (hhi : ofOpt hi = some hi') (hmx : ofOpt mx = some mx') (he : EvRel ρ t e) (hw : WRel base ρ S w)
    (h : kSliceSlice es x' lo' hi' mx' t S c = some z) : OpVal P ρ S e o w c z := by
  have hdx := he x x' hx
  cases hq : P.info? el with
  | none => rw [hq] at hn; cases hn
  | some ti =>
  have hsz : ti.size = es := by rw [hq] at hn; simpa using hn
  rcases ifB_or h with ⟨hs, h1⟩ | ⟨_, h1⟩
  · have hs := isSnil_true hs
    rw [hs] at hdx
    generalize hex : e x = ex at hdx
    cases hdx
    obtain ⟨l, hh, m, m', hk, hrun, hm, h0⟩ := bounds_some (P := P) (w := w) (sl := true) (C := 0) (Nat.le_refl 0) (evO_rel hlo he) (evO_rel hhi he) (evO_rel hmx he) h1
    obtain ⟨rfl, rfl, rfl⟩ := h0 rfl rfl
    have hm0 : m' = 0 := by rcases hm with ⟨_, _, a⟩ | ⟨_, a⟩ <;> exact a
    subst hm0
    exact .pure hk hw .snil (by simp [execOp, ho, hex, Instr.sliceAt, Instr.slice, run_underlying hu, hrun, sizeOf, typeInfo, hq])
  · obtain ⟨b, off, len, cap, op, hv, h2⟩ := onSl_some h1
    rw [hv] at hdx
    generalize hex : e x = ex at hdx
    cases hdx with
    | @sl _ _ _ _ r q _ hρ =>
      obtain ⟨l, hh, m, m', hk, hrun, hm, _⟩ := bounds_some (P := P) (w := w) (sl := true) (C := if op = true then cap + q else cap) (by split <;> omega) (evO_rel hlo he) (evO_rel hhi he) (evO_rel hmx he) h2
      have e1 : (⟨r, off, none⟩ : Addr).add (l * es) = ⟨r, off + l * es, none⟩ := Addr.add_mid r off (l * es)
      rcases ifB_or hk with ⟨hop, hk⟩ | ⟨hop, hk⟩
      · obtain ⟨hmx0, hk1⟩ := ifB_some hk
        obtain ⟨hhl, hk2⟩ := ifB_some hk1
        clear hk hk1
        have hhl : hh = l := beq_true hhl
        subst hhl
        by_cases hml : m' = hh
        · exact .pure hk2 hw (.sl0 (o' := off) (c := m' - hh) hρ) (by simp [execOp, ho, hex, Instr.sliceAt, Instr.slice, run_underlying hu, hrun, sizeOf, typeInfo, hq, hsz, hml])
        · exact .pure hk2 hw (.sl0 (o' := off + hh * es) (c := m' - hh) hρ) (by simp [execOp, ho, hex, Instr.sliceAt, Instr.slice, run_underlying hu, hrun, sizeOf, typeInfo, hq, hsz, hml, e1])
      · have hk := cutK_some hk
        cases op with
        | false =>
          simp only [Bool.false_eq_true, if_false] at hrun hex hm
          have hmm : m' = m := by rcases hm with ⟨_, a, b⟩ | ⟨_, a⟩ <;> omega
          subst hmm
          have d := Den.sl (len := hh - l) (cap := m' - l) (op := false) (o := if m' = l then off else off + l * es) hρ
          refine .pure hk hw d ?_
          by_cases hml : m' = l
          · simp [execOp, ho, hex, Instr.sliceAt, Instr.slice, run_underlying hu, hrun, sizeOf, typeInfo, hq, hsz, hml]
          · simp [execOp, ho, hex, Instr.sliceAt, Instr.slice, run_underlying hu, hrun, sizeOf, typeInfo, hq, hsz, hml, e1]
        | true =>
          have hml : l < m := ble_false (show Nat.ble m l = false from hop)
          have hml1 : ¬ m = l := by omega
          simp only [if_true] at hrun hex hm
          rw [if_neg hml1] at hk
          have fin : ∀ (op' : Bool) (C : Nat), m' ≠ l → Den ρ (.sl b (off + l * es) (hh - l) (m - l) op') (.slice (some ⟨r, off + l * es, none⟩) (hh - l) (m' - l)) → c (.sl b (off + l * es) (hh - l) (m - l) op') S = some z → OpVal P ρ S e o w c z := fun op' C hne d hk =>
            .pure hk hw d (by simp [execOp, ho, hex, Instr.sliceAt, Instr.slice, run_underlying hu, hrun, sizeOf, typeInfo, hq, hsz, hne, e1])
          rcases hm with ⟨hmx0, a, b'⟩ | ⟨hmx0, a⟩
          · have hn : isNone mx' = true := by cases mx' with
              | none => rfl
              | some y => cases hmx0
            have hk : c (.sl b (off + l * es) (hh - l) (m - l) true) S = some z := by
              have : ifB true (isNone mx') false = true := hn
              rw [this] at hk; exact hk
            have d := Den.sl (len := hh - l) (cap := m - l) (op := true) (o := off + l * es) hρ
            rw [if_pos rfl, show m - l + q = m' - l by omega] at d
            exact fin true 0 (by omega) d hk
          · have hn : isNone mx' = false := by cases mx' with
              | none => cases hmx0
              | some y => rfl
            have hk2 : c (.sl b (off + l * es) (hh - l) (m - l) false) S = some z := by
              have : ifB true (isNone mx') false = false := hn
              rw [this] at hk; exact hk
            have d := Den.sl (len := hh - l) (cap := m - l) (op := false) (o := off + l * es) hρ
            rw [if_neg (by decide)] at d
            have d : Den ρ (.sl b (off + l * es) (hh - l) (m - l) false) (.slice (some ⟨r, off + l * es, none⟩) (hh - l) (m' - l)) := by rw [a]; exact d
            exact fin false 0 (by omega) d hk2
    | @sl0 _ _ r q o' C hρ =>
      obtain ⟨l, hh, m, m', hk, hrun, hm, h0⟩ := bounds_some (P := P) (w := w) (sl := true) (C := C) (Nat.zero_le _) (evO_rel hlo he) (evO_rel hhi he) (evO_rel hmx he) h2
      obtain ⟨rfl, rfl, rfl⟩ := h0 rfl rfl
      obtain ⟨_, hk⟩ := ifB_some (show ifB (isNone mx') (ifB (Nat.beq 0 0) (c (.sl b off 0 0 true) S) none) none = some z from hk)
      have hk : c (.sl b off 0 0 true) S = some z := hk
      exact .pure hk hw (.sl0 (o' := o') (c := m') hρ) (by
        by_cases hm0 : m' = 0
        · simp [execOp, ho, hex, Instr.sliceAt, Instr.slice, run_underlying hu, hrun, sizeOf, typeInfo, hq, hsz, hm0]
        · simp [execOp, ho, hex, Instr.sliceAt, Instr.slice, run_underlying hu, hrun, sizeOf, typeInfo, hq, hsz, hm0, Addr.add])

theorem extract_eq (s : ByteArray) (l h : Nat) : s.extract l h = ⟨⟨(s.data.toList.drop l).take (h - l)⟩⟩ := by
  apply ByteArray.ext
  rw [ByteArray.data_extract]
  apply Array.toList_inj.1
  rw [Array.toList_extract]

theorem s_sliceString {ty : TypeId} {x : Operand} {lo hi : Option Operand} {x' : AR} {lo' hi' : Option AR} (ho : o.op = .slice ty x lo hi none) (hu : P.underlying ty = some .string)
    (hx : ofOperand x = some x') (hlo : ofOpt lo = some lo') (hhi : ofOpt hi = some hi') (he : EvRel ρ t e) (hw : WRel base ρ S w)
    (h : kSliceString x' lo' hi' t S c = some z) : OpVal P ρ S e o w c z := by
  obtain ⟨s, hv, h⟩ := onStr_some h
  have hdx := he x x' hx
  rw [hv] at hdx
  generalize hex : e x = ex at hdx
  cases hdx
  have hmx : OptRel ρ (none : Option AV) (none : Option Value) := .none
  obtain ⟨l, hh, m, m', hk, hrun, hm, _⟩ := bounds_some (P := P) (w := w) (sl := false) (C := s.size) (Nat.le_refl _) (evO_rel hlo he) (evO_rel hhi he) hmx h
  rw [dropU_eq, takeU_eq] at hk
  refine .pure hk hw (.str _) ?_
  have e1 := extract_eq s l hh
  rw [show (⟨⟨(s.data.toList.drop l).take (Nat.sub hh l)⟩⟩ : ByteArray) = s.extract l hh from e1.symm]
  simp [execOp, ho, hex, Instr.sliceAt, Instr.slice, run_underlying hu, hrun]
end Go.Proofs.YtpllompnfhpfmaaGreatDoor.Exe
namespace Go.Proofs.YtpllompnfhpfmaaGreatDoor.Exe
open Go
variable {Lg : Laid} {base : Base Lg} {w : World} {P : Program} {ρ : Rho} {S : AS} {t : T} {e : Operand → Value} {o : Oper} {c : K} {z : AV × Option AS}

theorem s_lenConst_array {x : Operand} {ats : Array TypeId} {ty el : TypeId} {n : Nat} (ho : o.op = .call { callee := .builtin .len, args := #[x], argTypes := ats }) (ha : ats[0]? = some ty) (hu : P.underlying ty = some (.array n el)) (hw : WRel base ρ S w)
    (h : kLenConst n t S c = some z) : OpVal P ρ S e o w c z :=
  .pure (u := .int .i64 n) h hw (.int _ _) (by simp [execOp, ho, resolve, invoke, builtin, Builtin.len_, ha, run_underlying hu, goInt])

theorem s_lenConst_ptr {x : Operand} {ats : Array TypeId} {ty ar el : TypeId} {n : Nat} (ho : o.op = .call { callee := .builtin .len, args := #[x], argTypes := ats }) (ha : ats[0]? = some ty) (hu : P.underlying ty = some (.pointer ar)) (hu2 : P.underlying ar = some (.array n el)) (hw : WRel base ρ S w)
    (h : kLenConst n t S c = some z) : OpVal P ρ S e o w c z :=
  .pure (u := .int .i64 n) h hw (.int _ _) (by simp [execOp, ho, resolve, invoke, builtin, Builtin.len_, ha, run_underlying hu, run_underlying hu2, goInt])


theorem xorB_eq (n b : Bool) : xorB n b = (n != b) := by cases n <;> cases b <;> rfl
/-- '==' and '!=' by what 'equal' says. -/
theorem run_eqOp {op : BinOp} {n : Bool} {ty yt : TypeId} {x y : Operand} {a b : Value} {r : Bool} (ho : o.op = .binOp op ty x y yt) (hop : negOf op = some n) (hex : e x = a) (hey : e y = b)
    (hg : ∀ op, (eqGuard op ty x y a b).run P w = .ok () w) (h1 : (binOp .eql ty a b) = (do pure (.bool (← Op.equal ty a b)))) (h2 : (binOp .neq ty a b) = (do pure (.bool (!(← Op.equal ty a b)))))
    (he : (Op.equal ty a b).run P w = .ok r w) : (execOp e o).run P w = .ok (.value (.bool (n != r))) w := by
  have hg' := hg op
  cases op <;> simp only [negOf, Option.some.injEq, reduceCtorEq] at hop
  · subst hop
    simp only [execOp, ho, hex, hey, h1, Sem.run_bind, hg', he, Result.andThen_ok]
    cases r <;> rfl
  · subst hop
    simp only [execOp, ho, hex, hey, h2, Sem.run_bind, hg', he, Result.andThen_ok]
    cases r <;> rfl

theorem s_eqBool {op : BinOp} {n : Bool} {ty yt : TypeId} {x y : Operand} {x' y' : AR} (ho : o.op = .binOp op ty x y yt) (hop : negOf op = some n) (hu : P.underlying ty = some .bool) (hx : ofOperand x = some x') (hy : ofOperand y = some y') (he : EvRel ρ t e) (hw : WRel base ρ S w)
    (h : kEqBool n x' y' t S c = some z) : OpVal P ρ S e o w c z := by
  obtain ⟨a, hva, h1⟩ := onBool_some h
  obtain ⟨b, hvb, h2⟩ := onBool_some h1
  have hdx := he x x' hx
  have hdy := he y y' hy
  rw [hva] at hdx
  rw [hvb] at hdy
  generalize hex : e x = ex at hdx
  generalize hey : e y = ey at hdy
  cases hdx
  cases hdy
  have e1 : ifB a b (ifB b false true) = (a == b) := by cases a <;> cases b <;> rfl
  rw [e1, xorB_eq] at h2
  exact .pure h2 hw (.bool _) (run_eqOp ho hop hex hey (fun op => by cases op <;> rfl) rfl rfl (run_equal_bool w ty a b hu))

/-- Of which kind a type's nil is. -/
def nilKind : TypeDesc → Nat
  | .pointer _ => 1 | .slice _ => 2 | .map _ _ => 3 | .func _ _ _ => 4 | .interface _ => 5 | _ => 0

theorem equal_nil {ty : TypeId} {d : TypeDesc} {x y : AV} {a b : Value} {r : Bool} (hu : P.underlying ty = some d) (hk : nilKind d ≠ 0) (hx : isKind (nilKind d) x = true) (hy : isKind (nilKind d) y = true) (dx : Den ρ x a) (dy : Den ρ y b) {cst : Bool} (h : nilEq cst x y = some r) :
    (Op.equal ty a b).run P w = .ok r w ∧ (binOp .eql ty a b) = (do pure (.bool (← Op.equal ty a b))) ∧ (binOp .neq ty a b) = (do pure (.bool (!(← Op.equal ty a b)))) ∧ ∀ op u v, (cst = true → x = .inil → (∃ c, u = .const c) ∨ ∃ c, v = .const c) → (eqGuard op ty u v a b).run P w = .ok () w := by
  have key : ∀ n : Nat, (Op.equalIn (n + 1) ty a b).run P w = .ok r w := by
    intro n
    unfold Op.equalIn
    rw [Sem.run_bind, run_underlying hu]
    cases d <;> first | exact absurd rfl hk | skip
    all_goals cases dx <;> first | exact Bool.noConfusion (show false = true from hx) | skip
    all_goals cases dy <;> first | exact Bool.noConfusion (show false = true from hy) | skip
    all_goals first | (cases h; rfl) | (cases h) | (cases cst <;> first | (cases h; rfl) | (cases h))
  refine ⟨key 9999, ?_⟩
  cases d <;> first | exact absurd rfl hk | skip
  all_goals cases dx <;> first | exact Bool.noConfusion (show false = true from hx) | skip
  all_goals cases dy <;> first | exact Bool.noConfusion (show false = true from hy) | skip
  all_goals first | (cases h; done) | (refine ⟨rfl, rfl, fun op u v _ => ?_⟩; cases op <;> rfl; done) | skip
  all_goals
    cases cst with
    | false => cases h
    | true =>
      refine ⟨rfl, rfl, fun op u v hc => ?_⟩
      rcases hc rfl rfl with ⟨c, rfl⟩ | ⟨c, rfl⟩
      · cases op <;> rfl
      · cases op <;> cases u <;> rfl

theorem s_eqNil {op : BinOp} {n : Bool} {ty yt : TypeId} {d : TypeDesc} {x y : Operand} {x' y' : AR} (ho : o.op = .binOp op ty x y yt) (hop : negOf op = some n) (hu : P.underlying ty = some d) (hk : nilKind d ≠ 0) (hx : ofOperand x = some x') (hy : ofOperand y = some y') (he : EvRel ρ t e) (hw : WRel base ρ S w)
    (h : kEqNil (nilKind d) n x' y' t S c = some z) : OpVal P ρ S e o w c z := by
  obtain ⟨h1, h2⟩ := ifB_some h
  obtain ⟨h3, h4⟩ := ifB_some h2
  obtain ⟨r, h5, h6⟩ := onSome_some h4
  obtain ⟨a1, a2, a3, a4⟩ := equal_nil (P := P) (w := w) hu hk h1 h3 (he x x' hx) (he y y' hy) h5
  rw [xorB_eq] at h6
  have hcc : (isC x' || isC y') = true → ev x' t = .inil → (∃ c, x = .const c) ∨ ∃ c, y = .const c := fun hc hi => by
    have hone : ∀ (u : Operand) (u' : AR), ofOperand u = some u' → isC u' = true → isKind (nilKind d) (ev u' t) = true → nilKind d = 5 → ∃ c, u = .const c := fun u u' hu' hc' hk' h5 => by
      cases u with
      | const c => exact ⟨c, rfl⟩
      | tmp m => cases hu'; exact Bool.noConfusion (show false = true from hc')
      | global g => cases hu'
      | func f =>
        cases hu'
        rw [h5] at hk'
        exact Bool.noConfusion (show false = true from hk')
    have h5 : nilKind d = 5 := by
      rw [hi] at h1
      cases d <;> first | rfl | exact Bool.noConfusion (show false = true from h1) | exact absurd rfl hk
    rcases Bool.or_eq_true_iff.1 hc with hc | hc
    · exact .inl (hone x x' hx hc h1 h5)
    · exact .inr (hone y y' hy hc h3 h5)
  exact .pure h6 hw (.bool _) (run_eqOp ho hop rfl rfl (fun op => a4 op x y hcc) a2 a3 a1)
end Go.Proofs.YtpllompnfhpfmaaGreatDoor.Exe
namespace Go.Proofs.YtpllompnfhpfmaaGreatDoor.Exe
open Go
variable {Lg : Laid} {base : Base Lg} {w : World} {P : Program} {ρ : Rho} {S : AS} {t : T} {e : Operand → Value} {o : Oper} {c : K} {z : AV × Option AS}

theorem WRel.map (h : WRel base ρ S w) {b r x k : Nat} {es : List (AV × AV × Nat)} (hb : S.heap.getK b = some (.map es k)) (er : ρ b = some (r, x)) : ∃ ms, w.heap[r]? = some (.map ms.toArray k) ∧ Ents ρ es ms := by
  obtain ⟨u, hu, ho⟩ := h.obj b _ r x hb er
  cases ho with
  | map a => exact ⟨_, hu, a⟩
theorem Ents.length {ρ : Rho} : ∀ {es : List (AV × AV × Nat)} {ms : List MapEntry}, Ents ρ es ms → es.length = ms.length
  | _, _, .nil => rfl
  | _, _, .cons _ _ _ h => by simp [h.length]
theorem run_getObj_map {r k : Nat} {ms : List MapEntry} (h : w.heap[r]? = some (.map ms.toArray k)) : (getObj r).run P w = .ok (.map ms.toArray k) w := by
  simp [getObj, Sem.run, h]

theorem lenK_some {n : Nat} (h : lenK n S c = some z) : c (.int .i64 n) S = some z := by
  unfold lenK at h
  rw [forceN_eq] at h
  exact h

theorem s_lenAny {x : Operand} {x' : AR} {ats : Array TypeId} {ty : TypeId} {d : TypeDesc} (ho : o.op = .call { callee := .builtin .len, args := #[x], argTypes := ats }) (ha : ats[0]? = some ty) (hu : P.underlying ty = some d)
    (hty : ∀ u v, ev x' t = v → Den ρ v u → match d, v with | .string, .str _ | .slice _, .snil | .slice _, .sl .. | .map _ _, .mnil | .map _ _, .map _ => True | _, _ => False)
    (hx : ofOperand x = some x') (he : EvRel ρ t e) (hw : WRel base ρ S w) (h : kLenAny x' t S c = some z) : OpVal P ρ S e o w c z := by
  have hdx := he x x' hx
  have ht := hty _ _ rfl hdx
  unfold kLenAny at h
  generalize hv : ev x' t = v at h hdx ht
  generalize hex : e x = ex at hdx
  have base0 : ∀ {u : Value}, (Builtin.len_ ats o.type #[e x]).run P w = .ok u w → (execOp e o).run P w = .ok (.value u) w := fun hr => by
    simp [execOp, ho, resolve, invoke, builtin, hr]
  cases hdx <;> first | (cases d <;> exact ht.elim) | skip
  · have h := lenK_some h
    cases d <;> first | exact ht.elim | skip
    exact .pure h hw (.int _ _) (base0 (by simp [hex, Builtin.len_, ha, run_underlying hu, goInt]))
  · have h := lenK_some h
    cases d <;> first | exact ht.elim | skip
    exact .pure h hw (.int _ _) (base0 (by simp [hex, Builtin.len_, ha, run_underlying hu, goInt]))
  · have h := lenK_some h
    cases d <;> first | exact ht.elim | skip
    exact .pure h hw (.int _ _) (base0 (by simp [hex, Builtin.len_, ha, run_underlying hu, goInt]))
  · have h := lenK_some h
    cases d <;> first | exact ht.elim | skip
    exact .pure h hw (.int _ _) (base0 (by simp [hex, Builtin.len_, ha, run_underlying hu, goInt]))
  · have h := lenK_some h
    cases d <;> first | exact ht.elim | skip
    exact .pure h hw (.int _ _) (base0 (by simp [hex, Builtin.len_, ha, run_underlying hu, goInt]))
  · rename_i b r q hρ
    obtain ⟨es, k, hb, h⟩ := onMapO_some h
    have h := lenK_some h
    obtain ⟨ms, hm, hE⟩ := hw.map hb hρ
    cases d <;> first | exact ht.elim | skip
    exact .pure h hw (.int _ _) (base0 (by simp [hex, Builtin.len_, ha, run_underlying hu, run_getObj_map hm, goInt, hE.length]))

theorem s_makeMap {ty : TypeId} (ho : o.op = .makeMap ty none) : OpMk P ρ e o w (.map [] 0) (fun b => .map b) := by
  refine ⟨0, .map #[] 0, .map (some w.heap.size), w, .inl rfl, fun ρ' _ => .map .nil, fun ρ' b hρ => .map hρ, ?_⟩
  simp [execOp, ho, Instr.makeMap, newObj]
  rfl

/-! ### Maps -/
theorem strEq_eq (a b : ByteArray) : strEq a b = (a.data.toList == b.data.toList) := by
  have key : ∀ (x y : List UInt8), listEq x y = (x == y) := by
    intro x
    induction x with
    | nil => intro y; cases y <;> rfl
    | cons p r ih =>
      intro y
      cases y with
      | nil => rfl
      | cons q s =>
        show ifB (Nat.beq p.toNat q.toNat) (listEq r s) false = _
        rw [ih s]
        by_cases h : p = q
        · subst h; rw [Nat.beq_refl]; show (r == s) = _; simp
        · have h1 : Nat.beq p.toNat q.toNat = false := by
            rw [Bool.eq_false_iff]
            intro e
            exact h (UInt8.toNat_inj.1 (beq_true e))
          rw [h1]
          show false = _
          symm
          simp [h]
  exact key _ _
end Go.Proofs.YtpllompnfhpfmaaGreatDoor.Exe
namespace Go.Proofs.YtpllompnfhpfmaaGreatDoor.Exe
open Go
variable {Lg : Laid} {base : Base Lg} {w : World} {P : Program} {ρ : Rho} {S : AS} {t : T} {e : Operand → Value} {o : Oper} {c : K} {z : AV × Option AS}

/-! ### '==' of structs and arrays -/
def kindV : Value → Nat
  | .int k _ => kindNo k
  | .bool _ => 8
  | .string _ => 9
  | _ => 99
def expandL : List (Nat × Nat) → List Nat
  | [] => []
  | p :: r => List.replicate p.2 p.1 ++ expandL r
theorem spanL_eq : ∀ l, spanL l = (expandL l).length
  | [] => rfl
  | p :: r => by simp [spanL, expandL, spanL_eq r]
theorem expandL_append : ∀ a b, expandL (a ++ b) = expandL a ++ expandL b
  | [], b => rfl
  | p :: r, b => by simp [expandL, expandL_append r b]
theorem expandL_times (l : List (Nat × Nat)) : ∀ n, expandL (timesL n l) = (List.replicate n (expandL l)).flatten
  | 0 => rfl
  | n + 1 => by simp [timesL, expandL_append, expandL_times l n, List.replicate_succ]

theorem ifB_bool {c t : Bool} (h : ifB c t false = true) : c = true ∧ t = true := by
  cases c with
  | true => exact ⟨rfl, h⟩
  | false => exact absurd h (by intro h; cases h)
theorem ifB_cases {R : Type} {c : Bool} {t e r : R} (h : ifB c t e = r) : (c = true ∧ t = r) ∨ (c = false ∧ e = r) := ifB_or h

theorem byteVals_kind : ∀ l m, (byteVals l m).map kindV = List.replicate l 4
  | 0, _ => rfl
  | l + 1, m => by simp [byteVals, byteVals_kind l, kindV, kindNo, List.replicate_succ]
theorem kindOfC_den {c : AV} {u : Value} (h : kindOfC c < 10) (o : isOne c = true) (d : Den ρ c u) : kindV u = kindOfC c := by
  cases d <;> first | rfl | exact Bool.noConfusion (show false = true from o) | exact absurd h (by decide) | exact absurd (show (99 : Nat) < 10 from h) (by decide)

theorem fitK_some : ∀ {cs : List AV} {us : List Value} {lay : List (Nat × Nat)}, Cells ρ cs us → fitK cs lay = true → us.map kindV = expandL lay
  | [], us, lay, hc, h => by
    cases hc
    cases lay with
    | nil => rfl
    | cons p r => exact absurd h (by intro h; cases h)
  | c :: cs, us, lay, hc, h => by
    obtain ⟨xs, ys, rfl, hl, hr, hx⟩ := hc.head
    cases lay with
    | nil => exact absurd h (by intro h; cases h)
    | cons p r =>
      obtain ⟨k, n⟩ := p
      obtain ⟨h1, h2⟩ := ifB_bool (show ifB (ifB (Nat.blt k 10) (Nat.beq (kindOfC c) k) false) (ifB (Nat.blt (widthK c) n) (fitK cs ((k, n - widthK c) :: r)) (ifB (Nat.beq (widthK c) n) (fitK cs r) false)) false = true from h)
      obtain ⟨hk, h1⟩ := ifB_bool h1
      have h1 := beq_true h1
      have hk : k < 10 := ble_true hk
      have hxs : xs.map kindV = List.replicate (widthK c) k := by
        rcases hx with ⟨o, u, rfl, d⟩ | ⟨l, m, rfl, rfl⟩
        · rw [width_one o]
          show [kindV u] = [k]
          rw [kindOfC_den (by omega) o d, h1]
        · have : k = 4 := by rw [← h1]; rfl
          subst this
          exact byteVals_kind l m
      rw [List.map_append, hxs]
      rcases ifB_or h2 with ⟨hb, h2⟩ | ⟨hb, h2⟩
      · have hb : widthK c < n := Nat.lt_of_lt_of_le (Nat.lt_succ_self _) (ble_true hb)
        rw [fitK_some hr h2]
        show _ = List.replicate n k ++ expandL r
        show _ ++ (List.replicate (n - widthK c) k ++ expandL r) = _
        rw [← List.append_assoc, List.replicate_append_replicate]
        congr 2
        omega
      · obtain ⟨hb, h2⟩ := ifB_bool h2
        have hb := beq_true hb
        rw [fitK_some hr h2, hb]
        rfl

theorem byteVals_inj : ∀ (l m n : Nat), byteVals l m = byteVals l n → m % 256 ^ l = n % 256 ^ l
  | 0, m, n, _ => by simp [Nat.mod_one]
  | l + 1, m, n, h => by
    have h : Value.int .u8 ((m % 256 : Nat) : Int) :: byteVals l (m / 256) = Value.int .u8 ((n % 256 : Nat) : Int) :: byteVals l (n / 256) := h
    injection h with h1 h2
    injection h1 with _ h1
    have ih := byteVals_inj l _ _ h2
    rw [Nat.pow_succ, Nat.mul_comm, Nat.mod_mul, Nat.mod_mul, ih]
    omega

theorem sameRowK_cons (x : AV) (a : List AV) (y : AV) (b : List AV) : sameRowK (x :: a) (y :: b) = onSome (orElse (onInt x fun j m => onInt y fun k n => ifB (sameKind j k) (some (eqK m n)) none) (orElse (onBytes x fun l m => onBytes y fun k n => ifB (Nat.beq l k) (some (Nat.beq (m % 256 ^ l) (n % 256 ^ l))) none) (orElse (onBool x fun m => onBool y fun n => some (ifB m n (ifB n false true))) (onStr x fun m => onStr y fun n => some (strEq m n))))) fun e => ifB e (sameRowK a b) (some false) := rfl

theorem strEq_iff (a b : ByteArray) : strEq a b = true ↔ a = b := by
  rw [strEq_eq]
  constructor
  · intro h
    have h : a.data.toList = b.data.toList := by simpa using h
    cases a; cases b
    congr 1
    exact Array.toList_inj.1 h
  · intro h; subst h; simp

/-- Two segments, the first of two rows. -/
theorem same_head {x y : AV} {xs ys xs' ys' : List Value} {q : Bool} (hx : (isOne x = true ∧ ∃ u, xs = [u] ∧ Den ρ x u) ∨ (∃ l n, x = .bytes l n ∧ xs = byteVals l n)) (hy : (isOne y = true ∧ ∃ u, ys = [u] ∧ Den ρ y u) ∨ (∃ l n, y = .bytes l n ∧ ys = byteVals l n))
    (h : (orElse (onInt x fun j m => onInt y fun k n => ifB (sameKind j k) (some (eqK m n)) none) (orElse (onBytes x fun l m => onBytes y fun k n => ifB (Nat.beq l k) (some (Nat.beq (m % 256 ^ l) (n % 256 ^ l))) none) (orElse (onBool x fun m => onBool y fun n => some (ifB m n (ifB n false true))) (onStr x fun m => onStr y fun n => some (strEq m n))))) = some q) :
    xs.length = ys.length ∧ (q = true ↔ xs = ys) := by
  rcases orElse_some h with h | ⟨_, h⟩
  · obtain ⟨j, m, rfl, h⟩ := onInt_some h
    obtain ⟨k, n, rfl, h⟩ := onInt_some (show onInt y _ = some q from h)
    obtain ⟨hk, h9⟩ := ifB_some (show ifB (sameKind j k) (some (eqK m n)) none = some q from h)
    have := kindNo_inj hk
    subst this
    rcases hx with ⟨_, u, rfl, d⟩ | ⟨_, _, e, _⟩
    · cases d
      rcases hy with ⟨_, u, rfl, d⟩ | ⟨_, _, e, _⟩
      · cases d
        cases h9
        rw [eqK_eq]
        exact ⟨rfl, by simp⟩
      · cases e
    · cases e
  rcases orElse_some h with h | ⟨_, h⟩
  · obtain ⟨l, m, rfl, h⟩ := onBytes_some h
    obtain ⟨k, n, rfl, h⟩ := onBytes_some (show onBytes y _ = some q from h)
    obtain ⟨hk, h9⟩ := ifB_some (show ifB (Nat.beq l k) (some (Nat.beq (m % 256 ^ l) (n % 256 ^ l))) none = some q from h)
    have := beq_true hk
    subst this
    rcases hx with ⟨o, _⟩ | ⟨_, _, e, rfl⟩
    · exact Bool.noConfusion (show false = true from o)
    · cases e
      rcases hy with ⟨o, _⟩ | ⟨_, _, e, rfl⟩
      · exact Bool.noConfusion (show false = true from o)
      · cases e
        cases h9
        refine ⟨by rw [byteVals_length, byteVals_length], ?_⟩
        rw [beq_dec, decide_eq_true_eq]
        exact ⟨fun h => by rw [← byteVals_mod l m, h, byteVals_mod], byteVals_inj l m n⟩
  rcases orElse_some h with h | ⟨_, h⟩
  · obtain ⟨m, rfl, h⟩ := onBool_some h
    obtain ⟨n, rfl, h⟩ := onBool_some (show onBool y _ = some q from h)
    rcases hx with ⟨_, u, rfl, d⟩ | ⟨_, _, e, _⟩
    · cases d
      rcases hy with ⟨_, u, rfl, d⟩ | ⟨_, _, e, _⟩
      · cases d
        cases h
        refine ⟨rfl, ?_⟩
        cases m <;> cases n <;> simp [ifB]
      · cases e
    · cases e
  · obtain ⟨m, rfl, h⟩ := onStr_some h
    obtain ⟨n, rfl, h⟩ := onStr_some (show onStr y _ = some q from h)
    rcases hx with ⟨_, u, rfl, d⟩ | ⟨_, _, e, _⟩
    · cases d
      rcases hy with ⟨_, u, rfl, d⟩ | ⟨_, _, e, _⟩
      · cases d
        cases h
        refine ⟨rfl, ?_⟩
        rw [strEq_iff]
        simp
      · cases e
    · cases e

theorem sameRowK_some : ∀ {a b : List AV} {us vs : List Value} {r : Bool}, Cells ρ a us → Cells ρ b vs → sameRowK a b = some r → (r = true ↔ us = vs)
  | [], [], us, vs, r, ha, hb, h => by cases ha; cases hb; cases h; simp
  | [], y :: b, us, vs, r, ha, hb, h => by cases h
  | x :: a, [], us, vs, r, ha, hb, h => by cases h
  | x :: a, y :: b, us, vs, r, ha, hb, h => by
    obtain ⟨xs, xs', rfl, hl, hr, hx⟩ := ha.head
    obtain ⟨ys, ys', rfl, hl', hr', hy⟩ := hb.head
    rw [sameRowK_cons] at h
    obtain ⟨q, hq, h⟩ := onSome_some h
    obtain ⟨h1, h2⟩ := same_head (xs' := xs') (ys' := ys') hx hy hq
    rcases ifB_or h with ⟨rfl, h⟩ | ⟨rfl, h⟩
    · have ih := sameRowK_some hr hr' h
      rw [ih, h2.1 rfl]
      simp
    · cases h
      constructor
      · intro h; cases h
      · intro h
        have := (List.append_inj h h1).1
        exact absurd (h2.2 this) (by simp)
end Go.Proofs.YtpllompnfhpfmaaGreatDoor.Exe
namespace Go.Proofs.YtpllompnfhpfmaaGreatDoor.Exe
open Go
variable {Lg : Laid} {base : Base Lg} {w : World} {P : Program} {ρ : Rho} {S : AS} {t : T} {e : Operand → Value} {o : Oper} {c : K} {z : AV × Option AS}

/-- A value of a type, by its cells. -/
def asV (P : Program) (ty : TypeId) (us : List Value) (a : Value) : Prop := (aggT P ty = true ∧ a = .agg us.toArray) ∨ (aggT P ty = false ∧ us = [a])

theorem info_under {ty : TypeId} {d : TypeDesc} (h : P.underlying ty = some d) : ∃ i, P.info? ty = some i := by
  unfold Program.underlying at h
  cases hi : P.info? ty with
  | none => rw [hi] at h; cases h
  | some i => exact ⟨i, rfl⟩
theorem run_isAgg_any {ty : TypeId} {d : TypeDesc} (hu : P.underlying ty = some d) (w : World) : (isAgg ty).run P w = .ok (aggT P ty) w := by
  cases h : aggT P ty with
  | false => exact run_isAgg_false hu h w
  | true =>
    unfold isAgg
    rw [Sem.run_bind, run_underlying hu w]
    unfold aggT at h
    rw [hu] at h
    cases d <;> first | rfl | cases h

theorem run_part_of {ty : TypeId} {d : TypeDesc} {n off : Nat} {xs : Array Value} (hu : P.underlying ty = some d) (hn : sizeT P ty = n) (hlen : off + n ≤ xs.size) (h1 : aggT P ty = false → n = 1) (w : World) :
    ∃ a, asV P ty ((xs.toList.drop off).take n) a ∧ (part ty xs off).run P w = .ok a w := by
  obtain ⟨i, hi⟩ := info_under hu
  have hs : i.size = n := by unfold sizeT at hn; rw [hi] at hn; simpa using hn
  unfold part
  rw [Sem.run_bind, run_isAgg_any hu w]
  cases h : aggT P ty with
  | true =>
    refine ⟨.agg (xs.extract off (off + n)), .inl ⟨h, ?_⟩, ?_⟩
    · congr 1
      apply Array.toList_inj.1
      simp [List.extract]
    · simp [sizeOf, typeInfo, hi, hs]
  | false =>
    have := h1 h
    subst this
    have hlt : off < xs.size := by omega
    refine ⟨xs[off], .inr ⟨h, ?_⟩, ?_⟩
    · rw [List.take_one]
      simp [hlt]
    · simp [hlt]

theorem chunk_flat (x : List Nat) : ∀ (n i : Nat), i < n → ((List.replicate n x).flatten.drop (i * x.length)).take x.length = x
  | n + 1, 0, _ => by simp [List.replicate_succ]
  | n + 1, i + 1, h => by
    rw [List.replicate_succ, List.flatten_cons, show (i + 1) * x.length = x.length + i * x.length by rw [Nat.add_mul]; omega, ← List.drop_drop, List.drop_left]
    exact chunk_flat x n i (by omega)

/-- Rows are the same if their chunks are. -/
theorem chunks_eq {A : Type} (m : Nat) : ∀ (n : Nat) (us vs : List A), us.length = n * m → vs.length = n * m → ((∀ i, i < n → (us.drop (i * m)).take m = (vs.drop (i * m)).take m) ↔ us = vs)
  | 0, us, vs, hu, hv => by
    have h1 : us = [] := List.eq_nil_of_length_eq_zero (by omega)
    have h2 : vs = [] := List.eq_nil_of_length_eq_zero (by omega)
    subst h1; subst h2; simp
  | n + 1, us, vs, hu, hv => by
    have e1 : (n + 1) * m = n * m + m := by rw [Nat.add_mul]; omega
    constructor
    · intro h
      have h0 := h 0 (by omega)
      simp only [Nat.zero_mul, List.drop_zero] at h0
      have ih := (chunks_eq m n (us.drop m) (vs.drop m) (by rw [List.length_drop]; omega) (by rw [List.length_drop]; omega)).1 (fun i hi => by
        have := h (i + 1) (by omega)
        rw [show (i + 1) * m = m + i * m by rw [Nat.add_mul]; omega] at this
        rw [List.drop_drop, List.drop_drop]
        exact this)
      rw [← List.take_append_drop m us, ← List.take_append_drop m vs, h0, ih]
    · intro h; subst h; intro i _; rfl

theorem run_eqItems_of {D : Nat} {el : TypeId} {m n : Nat} {xs ys : Array Value} (hstep : ∀ (i : Nat) (w : World), i < n → ∃ a b r, (part el xs (i * m)).run P w = .ok a w ∧ (part el ys (i * m)).run P w = .ok b w ∧ (Op.equalIn D el a b).run P w = .ok r w ∧ (r = true ↔ (xs.toList.drop (i * m)).take m = (ys.toList.drop (i * m)).take m)) (w : World) :
    ∀ (is : List Nat), (∀ i ∈ is, i < n) → ∃ r : Bool, (Op.eqItems D el m xs ys is).run P w = .ok r w ∧ (r = true ↔ ∀ i ∈ is, (xs.toList.drop (i * m)).take m = (ys.toList.drop (i * m)).take m)
  | [], _ => ⟨true, by simp [Op.eqItems], by simp⟩
  | i :: is, h => by
    obtain ⟨a, b, r, p1, p2, p3, hiff⟩ := hstep i w (h i (by simp))
    obtain ⟨r', hr', hiff'⟩ := run_eqItems_of hstep w is (fun j hj => h j (by simp [hj]))
    simp only [Op.eqItems, Sem.run_bind, p1, p2, p3, Result.andThen_ok]
    cases r
    · exact ⟨false, by simp, by simp; intro e; exact absurd (hiff.2 e) (by simp)⟩
    · exact ⟨r', by simpa using hr', by rw [hiff']; simp [hiff.1 rfl]⟩

/-- What a type's cells must be for '==' to be the sameness of the cells. -/
def EqFit (P : Program) (D : Nat) (ty : TypeId) (lay : List (Nat × Nat)) : Prop :=
  ∀ (w : World) (us vs : List Value) (a b : Value), us.map kindV = expandL lay → vs.map kindV = expandL lay → asV P ty us a → asV P ty vs b → ∃ r : Bool, (Op.equalIn D ty a b).run P w = .ok r w ∧ (r = true ↔ us = vs)

theorem kind_int {u : Value} {k : IntKind} (h : kindV u = kindNo k) : ∃ n, u = .int k n := by
  cases u with
  | int j n =>
    have : sameKind j k = true := by
      have h : kindNo j = kindNo k := h
      show Nat.beq (kindNo j) (kindNo k) = true
      rw [h]; exact Nat.beq_refl _
    have := kindNo_inj this
    subst this
    exact ⟨n, rfl⟩
  | _ => cases k <;> simp [kindV, kindNo] at h
theorem kind_bool {u : Value} (h : kindV u = 8) : ∃ b, u = .bool b := by
  cases u with
  | int j n => cases j <;> simp [kindV, kindNo] at h
  | bool b => exact ⟨b, rfl⟩
  | _ => simp [kindV] at h
theorem kind_str {u : Value} (h : kindV u = 9) : ∃ b, u = .string b := by
  cases u with
  | int j n => cases j <;> simp [kindV, kindNo] at h
  | string s => exact ⟨s, rfl⟩
  | _ => simp [kindV] at h
theorem asV_leaf {ty : TypeId} {us : List Value} {a : Value} (hg : aggT P ty = false) (h : asV P ty us a) : us = [a] := by
  rcases h with ⟨g, _⟩ | ⟨_, h⟩
  · rw [hg] at g; cases g
  · exact h

theorem part_step {D : Nat} {el : TypeId} {l : List (Nat × Nat)} {off : Nat} {xs ys : Array Value} {d : TypeDesc} (hu : P.underlying el = some d) (hs : sizeT P el = spanL l) (h1 : aggT P el = false → spanL l = 1) (IH : EqFit P D el l)
    (hx : ((xs.toList.drop off).take (spanL l)).map kindV = expandL l) (hy : ((ys.toList.drop off).take (spanL l)).map kindV = expandL l) (hlx : off + spanL l ≤ xs.size) (hly : off + spanL l ≤ ys.size) (w : World) :
    ∃ a b r, (part el xs off).run P w = .ok a w ∧ (part el ys off).run P w = .ok b w ∧ (Op.equalIn D el a b).run P w = .ok r w ∧ (r = true ↔ (xs.toList.drop off).take (spanL l) = (ys.toList.drop off).take (spanL l)) := by
  obtain ⟨a, ha, pa⟩ := run_part_of hu hs hlx h1 w
  obtain ⟨b, hb, pb⟩ := run_part_of hu hs hly h1 w
  obtain ⟨r, hr, hiff⟩ := IH w _ _ a b hx hy ha hb
  exact ⟨a, b, r, pa, pb, hr, hiff⟩

structure PartOk (P : Program) (D : Nat) (f : Field) (p : Nat × List (Nat × Nat)) : Prop where
  name : f.name ≠ "_"
  off : f.offset = p.1
  size : sizeT P f.type = spanL p.2
  desc : ∃ d, P.underlying f.type = some d
  one : aggT P f.type = false → spanL p.2 = 1
  eq : EqFit P D f.type p.2
inductive Parts (P : Program) (D : Nat) : List Field → List (Nat × List (Nat × Nat)) → Prop where
  | nil : Parts P D [] []
  | cons {f : Field} {p : Nat × List (Nat × Nat)} {fs : List Field} {pl : List (Nat × List (Nat × Nat))} : PartOk P D f p → Parts P D fs pl → Parts P D (f :: fs) (p :: pl)

theorem run_eqFields_of {D : Nat} {xs ys : Array Value} (hsz : xs.size = ys.size) (w : World) : ∀ (fs : List Field) (pl : List (Nat × List (Nat × Nat))) (off : Nat) (lay : List (Nat × Nat)),
    Parts P D fs pl → leafL.seqL off pl = some lay →
    (xs.toList.drop off).map kindV = expandL lay → (ys.toList.drop off).map kindV = expandL lay → ∃ r : Bool, (Op.eqFields D xs ys fs).run P w = .ok r w ∧ (r = true ↔ xs.toList.drop off = ys.toList.drop off)
  | [], pl, off, lay, hf, hl, hx, hy => by
    cases hf
    cases hl
    have e1 : xs.toList.drop off = [] := by simpa [expandL] using hx
    have e2 : ys.toList.drop off = [] := by simpa [expandL] using hy
    exact ⟨true, by simp [Op.eqFields], by rw [e1, e2]; simp⟩
  | f :: fs, pl, off, lay, hf, hl, hx, hy => by
    cases hf with
    | @cons _ p _ pl' h hf' =>
      obtain ⟨hn, hoff, hs, ⟨d, hu⟩, h1, IH⟩ := h
      unfold leafL.seqL at hl
      cases hb : Nat.beq p.1 off with
      | false => rw [hb] at hl; cases hl
      | true =>
        rw [hb] at hl
        have hb := beq_true hb
        simp only [cond_true, Option.map_eq_some_iff] at hl
        obtain ⟨lay', hl', rfl⟩ := hl
        rw [expandL_append] at hx hy
        have hlen : ∀ (zs : Array Value), (zs.toList.drop off).map kindV = expandL p.2 ++ expandL lay' → ((zs.toList.drop off).take (spanL p.2)).map kindV = expandL p.2 ∧ (zs.toList.drop (off + spanL p.2)).map kindV = expandL lay' ∧ spanL p.2 ≤ zs.toList.length - off := by
          intro zs h
          have h3 := congrArg List.length h
          rw [List.length_map, List.length_drop, List.length_append, ← spanL_eq p.2] at h3
          refine ⟨?_, ?_, by omega⟩
          · rw [List.map_take, h, spanL_eq, List.take_left]
          · rw [← List.drop_drop, List.map_drop, h, spanL_eq, List.drop_left]
        obtain ⟨x1, x2, x3⟩ := hlen xs hx
        obtain ⟨y1, y2, y3⟩ := hlen ys hy
        rw [Array.length_toList] at x3 y3
        by_cases h0 : off ≤ xs.size
        · have hoff : f.offset = off := by rw [hoff, hb]
          obtain ⟨a, b, r, p1, p2, p3, hiff⟩ := part_step hu hs h1 IH x1 y1 (by omega) (by omega) w
          obtain ⟨r', hr', hiff'⟩ := run_eqFields_of hsz w fs pl' (off + spanL p.2) lay' hf' hl' x2 y2
          rw [← hoff] at p1 p2
          simp only [Op.eqFields, hn, ne_eq, not_false_eq_true, if_true, Sem.run_bind, p1, p2, p3, Result.andThen_ok]
          have hsplit : xs.toList.drop off = ys.toList.drop off ↔ (xs.toList.drop off).take (spanL p.2) = (ys.toList.drop off).take (spanL p.2) ∧ xs.toList.drop (off + spanL p.2) = ys.toList.drop (off + spanL p.2) := by
            constructor
            · intro h; rw [h, ← List.drop_drop, h, List.drop_drop]; exact ⟨rfl, rfl⟩
            · rintro ⟨h1, h2⟩
              rw [← List.take_append_drop (spanL p.2) (xs.toList.drop off), ← List.take_append_drop (spanL p.2) (ys.toList.drop off), h1, List.drop_drop, List.drop_drop, h2]
          rw [hsplit]
          cases r
          · exact ⟨false, by simp, by simp; intro e; exact absurd (hiff.2 e) (by simp)⟩
          · exact ⟨r', by simpa using hr', by rw [hiff']; simp [hiff.1 rfl]⟩
        · -- nothing is left
          have e1 : spanL p.2 = 0 := by omega
          have hoff' : f.offset = off := by rw [hoff, hb]
          by_cases hg : aggT P f.type = false
          · have := h1 hg; omega
          · have hg : aggT P f.type = true := by cases h : aggT P f.type <;> simp_all
            have px : ∀ zs : Array Value, xs.size = zs.size → (part f.type zs off).run P w = .ok (.agg #[]) w := by
              intro zs hz
              obtain ⟨i, hi⟩ := info_under hu
              have hsi : i.size = 0 := by unfold sizeT at hs; rw [hi, e1] at hs; simpa using hs
              unfold part
              rw [Sem.run_bind, run_isAgg_any hu w, hg]
              simp [sizeOf, typeInfo, hi, hsi]
              omega
            have hexp : expandL p.2 = [] := List.eq_nil_of_length_eq_zero (by rw [← spanL_eq, e1])
            obtain ⟨r, hr, hiff⟩ := IH w [] [] (.agg #[]) (.agg #[]) (by rw [hexp]; rfl) (by rw [hexp]; rfl) (.inl ⟨hg, rfl⟩) (.inl ⟨hg, rfl⟩)
            have hrt := hiff.2 rfl
            subst hrt
            obtain ⟨r', hr', hiff'⟩ := run_eqFields_of hsz w fs pl' (off + spanL p.2) lay' hf' hl' x2 y2
            simp only [Op.eqFields, hn, ne_eq, not_false_eq_true, if_true, Sem.run_bind, hoff', px xs rfl, px ys hsz, hr, Result.andThen_ok]
            refine ⟨r', by simpa using hr', ?_⟩
            rw [hiff', e1]
            rfl

theorem eq_fit : ∀ (d : Nat) (ty : TypeId) (lay : List (Nat × Nat)), leafL P d ty = some lay → (∀ D, EqFit P (D + d) ty lay) ∧ (∃ ds, P.underlying ty = some ds) ∧ (aggT P ty = false → spanL lay = 1)
  | 0, _, _, h => by cases h
  | d + 1, ty, lay, h => by
    unfold leafL at h
    cases hu : P.underlying ty with
    | none => rw [hu] at h; cases h
    | some ds =>
      rw [hu] at h
      have leaf : ∀ k, aggT P ty = false → lay = [(k, 1)] → (∀ (D : Nat) (w : World) (u v : Value), kindV u = k → kindV v = k → ∃ r : Bool, (Op.equalIn (D + 1) ty u v).run P w = .ok r w ∧ (r = true ↔ u = v)) →
          (∀ D, EqFit P (D + (d + 1)) ty lay) ∧ (∃ ds', some ds = some ds') ∧ (aggT P ty = false → spanL lay = 1) := by
        intro k hg hl hk
        subst hl
        refine ⟨fun D w us vs a b hus hvs ha hb => ?_, ⟨ds, rfl⟩, fun _ => rfl⟩
        have e1 := asV_leaf hg ha
        have e2 := asV_leaf hg hb
        subst e1; subst e2
        obtain ⟨r, hr, hiff⟩ := hk (D + d) w a b (by simpa [expandL] using hus) (by simpa [expandL] using hvs)
        exact ⟨r, hr, by rw [hiff]; simp⟩
      cases ds with
      | bool =>
        refine leaf 8 (by unfold aggT; rw [hu]) (by simpa using h.symm) fun D w u v e1 e2 => ?_
        obtain ⟨a, rfl⟩ := kind_bool e1
        obtain ⟨b, rfl⟩ := kind_bool e2
        exact ⟨_, run_equalIn_bool w D ty a b hu, by simp⟩
      | int k =>
        refine leaf (kindNo k) (by unfold aggT; rw [hu]) (by simpa using h.symm) fun D w u v e1 e2 => ?_
        obtain ⟨a, rfl⟩ := kind_int e1
        obtain ⟨b, rfl⟩ := kind_int e2
        exact ⟨_, run_equalIn_int w D ty k k a b hu, by simp⟩
      | string =>
        refine leaf 9 (by unfold aggT; rw [hu]) (by simpa using h.symm) fun D w u v e1 e2 => ?_
        obtain ⟨a, rfl⟩ := kind_str e1
        obtain ⟨b, rfl⟩ := kind_str e2
        refine ⟨_, run_equalIn_string w D ty a b hu, ?_⟩
        simp only [beq_iff_eq, Value.string.injEq]
        constructor
        · intro h
          have h : a.data.toList = b.data.toList := by rw [ByteArray.toList_eq, ByteArray.toList_eq] at h; exact h
          cases a; cases b; congr 1; exact Array.toList_inj.1 h
        · intro h; rw [h]
      | array n el =>
        simp only [Option.bind_eq_some_iff] at h
        obtain ⟨l, hl, h⟩ := h
        cases hb : Nat.beq (sizeT P el) (spanL l) with
        | false => rw [hb] at h; cases h
        | true =>
          rw [hb] at h
          have hs := beq_true hb
          obtain ⟨IH, ⟨de, hue⟩, h1⟩ := eq_fit d el l hl
          have hg : aggT P ty = true := by unfold aggT; rw [hu]
          have hexp : expandL lay = (List.replicate n (expandL l)).flatten := by
            simp only [cond_true] at h
            split at h
            · cases h
              simp [expandL]
            · cases h
              exact expandL_times l n
          obtain ⟨i, hi⟩ := info_under hue
          have hcells : P.cellsOf el = spanL l := hs
          refine ⟨fun D w us vs a b hus hvs ha hb => ?_, ⟨_, rfl⟩, fun h => by rw [hg] at h; cases h⟩
          rcases ha with ⟨_, rfl⟩ | ⟨g, _⟩
          rotate_left
          · rw [hg] at g; cases g
          rcases hb with ⟨_, rfl⟩ | ⟨g, _⟩
          rotate_left
          · rw [hg] at g; cases g
          rw [hexp] at hus hvs
          have hlen : ∀ zs : List Value, zs.map kindV = (List.replicate n (expandL l)).flatten → zs.length = n * spanL l := by
            intro zs h
            have := congrArg List.length h
            rw [List.length_map] at this
            rw [this, spanL_eq]
            simp
          have hch : ∀ (zs : List Value) (i : Nat), zs.map kindV = (List.replicate n (expandL l)).flatten → i < n → ((zs.toArray.toList.drop (i * spanL l)).take (spanL l)).map kindV = expandL l := by
            intro zs i h hi
            rw [List.map_take, List.map_drop]
            show List.take _ (List.drop _ (zs.map kindV)) = _
            rw [h, spanL_eq]
            exact chunk_flat _ n i hi
          have hle : ∀ i, i < n → i * spanL l + spanL l ≤ n * spanL l := fun i hi => by
            have := Nat.mul_le_mul_right (spanL l) (show i + 1 ≤ n from hi)
            rw [Nat.add_mul] at this
            omega
          have hu1 := hlen us hus
          have hv1 := hlen vs hvs
          obtain ⟨r, hr, hiff⟩ := run_eqItems_of (P := P) (D := D + d) (el := el) (m := spanL l) (n := n) (xs := us.toArray) (ys := vs.toArray)
            (fun i w hi => part_step hue hs h1 (IH D) (hch us i hus hi) (hch vs i hvs hi) (by have := hle i hi; simp; omega) (by have := hle i hi; simp; omega) w) w (List.range n) (fun i hi => List.mem_range.1 hi)
          refine ⟨r, ?_, ?_⟩
          · rw [show D + (d + 1) = (D + d) + 1 from rfl, run_equalIn_array w (D + d) _ _ hu hi, hcells]
            exact hr
          · rw [hiff, ← chunks_eq (spanL l) n us vs hu1 hv1]
            simp
      | struct fs =>
        simp only at h
        cases hst : P.stoodInHeld ty with
        | true => rw [hst] at h; cases h
        | false =>
          rw [hst] at h
          simp only [cond_false, Option.bind_eq_some_iff] at h
          obtain ⟨pl, hpl, hseq⟩ := h
          have hg : aggT P ty = true := by unfold aggT; rw [hu]
          have hparts : ∀ (l : List Field) (pl : List (Nat × List (Nat × Nat))), l.foldr (fun f r => r.bind fun r => bif f.name == "_" then none else (leafL P d f.type).bind fun l => bif Nat.beq (sizeT P f.type) (spanL l) then some ((f.offset, l) :: r) else none) (some []) = some pl → ∀ D, Parts P (D + d) l pl := by
            intro l
            induction l with
            | nil => intro pl h D; cases h; exact .nil
            | cons f l ih =>
              intro pl h D
              simp only [List.foldr_cons, Option.bind_eq_some_iff] at h
              obtain ⟨pl', h1, h2⟩ := h
              cases hn : f.name == "_" with
              | true => rw [hn] at h2; cases h2
              | false =>
                rw [hn] at h2
                simp only [cond_false, Option.bind_eq_some_iff] at h2
                obtain ⟨lf, h3, h4⟩ := h2
                cases hb : Nat.beq (sizeT P f.type) (spanL lf) with
                | false => rw [hb] at h4; cases h4
                | true =>
                  rw [hb] at h4
                  cases h4
                  obtain ⟨IH, hd, h1'⟩ := eq_fit d f.type lf h3
                  exact .cons ⟨by simpa using hn, rfl, beq_true hb, hd, h1', IH D⟩ (ih pl' h1 D)
          refine ⟨fun D w us vs a b hus hvs ha hb => ?_, ⟨_, rfl⟩, fun h => by rw [hg] at h; cases h⟩
          rcases ha with ⟨_, rfl⟩ | ⟨g, _⟩
          rotate_left
          · rw [hg] at g; cases g
          rcases hb with ⟨_, rfl⟩ | ⟨g, _⟩
          rotate_left
          · rw [hg] at g; cases g
          have hfs : P.fieldsOf ty = fs := by simp [Program.fieldsOf, hu]
          have hsz : us.toArray.size = vs.toArray.size := by
            have := congrArg List.length (hus.trans hvs.symm)
            simpa using this
          obtain ⟨r, hr, hiff⟩ := run_eqFields_of (xs := us.toArray) (ys := vs.toArray) hsz w fs.toList pl 0 lay (hparts _ _ hpl D) hseq (by simpa using hus) (by simpa using hvs)
          refine ⟨r, ?_, by rw [hiff]; simp⟩
          rw [show D + (d + 1) = (D + d) + 1 from rfl, run_equalIn_struct w (D + d) ty _ _ (by rw [hfs]; exact hu) hst, hfs]
          exact hr
      | _ => cases h

theorem s_eqPlain {op : BinOp} {n : Bool} {ty yt : TypeId} {x y : Operand} {x' y' : AR} {lay : List (Nat × Nat)} (ho : o.op = .binOp op ty x y yt) (hop : negOf op = some n) (hg : aggT P ty = true) (hq : P.eqGuardType P.depth ty = false) (hl : leafL P 20 ty = some lay)
    (hx : ofOperand x = some x') (hy : ofOperand y = some y') (he : EvRel ρ t e) (hw : WRel base ρ S w) (h : kEqPlain n lay x' y' t S c = some z) : OpVal P ρ S e o w c z := by
  obtain ⟨a, hva, h⟩ := onAgg_some h
  obtain ⟨b, hvb, h⟩ := onAgg_some (show onAgg (ev y' t) _ = some z from h)
  obtain ⟨f1, h⟩ := ifB_some (show ifB (fitK a lay) _ none = some z from h)
  obtain ⟨f2, h⟩ := ifB_some (show ifB (fitK b lay) _ none = some z from h)
  obtain ⟨r, hr, h⟩ := onSome_some h
  have hdx := he x x' hx
  have hdy := he y y' hy
  rw [hva] at hdx
  rw [hvb] at hdy
  obtain ⟨us, hex, hc1, _⟩ := row_cells hdx
  obtain ⟨vs, hey, hc2, _⟩ := row_cells hdy
  obtain ⟨q, hq1, hiff⟩ := (eq_fit 20 ty lay hl).1 9980 w us vs _ _ (fitK_some hc1 f1) (fitK_some hc2 f2) (.inl ⟨hg, rfl⟩) (.inl ⟨hg, rfl⟩)
  have e1 : q = r := by
    have := hiff.trans (sameRowK_some hc1 hc2 hr).symm
    cases q <;> cases r <;> simp_all
  subst e1
  have e2 : ifB n (ifB q false true) q = (n != q) := by cases n <;> cases q <;> rfl
  rw [e2] at h
  refine .pure h hw (.bool _) (run_eqOp ho hop hex hey (fun op => ?_) rfl rfl hq1)
  unfold eqGuard
  cases op <;> simp [hq]
end Go.Proofs.YtpllompnfhpfmaaGreatDoor.Exe
