/- A part of the machine that reckons a closed run, and of the proof that what it says the given program does. No conditions. -/
import Derived.Test.YtpochibfjpanhaaGreatXm
set_option linter.unusedVariables false
set_option linter.unusedSimpArgs false
namespace Go.Proofs.YtpochibfjpanhaaGreat.Exe
open Go
variable {base w : World} {P : Program} {ρ : Rho} {S : AS} {t : T} {e : Operand → Value} {o : Oper} {c : K} {z : AV × Option AS}

theorem eqGuard_int (op : BinOp) (ty : TypeId) (x y : Operand) (k j : IntKind) (a b : Int) : (eqGuard op ty x y (.int k a) (.int j b)).run P w = .ok () w := by
  cases op <;> rfl

theorem int_shift {op : BinOp} {ty : TypeId} {k j : IntKind} {a b : Int} {v : AV} (h : intOp op k a b = some v) (hs : isShift op = true) : ∃ u, Den ρ v u ∧ (binOp op ty (.int k a) (.int j b)).run P w = .ok u w := by
  cases op <;> first | exact Bool.noConfusion (show false = true from hs) | skip
  · obtain ⟨n, rfl, h1⟩ := onNatI_some (show onNatI b _ = some v from h)
    obtain ⟨h2, h3⟩ := ifB_some h1
    have h2 := ble_true h2
    rw [bitsK_eq] at h2
    have := inK_some (show inK k (a * (Int.ofNat (Nat.pow 2 n))) = some v by cases a <;> exact h3)
    subst this
    refine ⟨_, .int _ _, ?_⟩
    have e1 : min n k.bits = n := Nat.min_eq_left h2
    have e2 : ((2 ^ n : Nat) : Int) = 2 ^ n := by simp
    have e4 : ¬ ((n : Int) < 0) := by omega
    simp [binOp, Op.shift, e1, e4]
  · obtain ⟨m, rfl, h0⟩ := onNatI_some (show onNatI a _ = some v from h)
    obtain ⟨n, rfl, h1⟩ := onNatI_some h0
    obtain ⟨h2, h3⟩ := ifB_some h1
    have h2 := ble_true h2
    rw [bitsK_eq] at h2
    rw [forceN_eq] at h3
    cases h3
    refine ⟨_, .int _ _, ?_⟩
    have e1 : min n k.bits = n := Nat.min_eq_left h2
    have e2 : Int.fdiv (m : Int) (2 ^ n) = ((m / 2 ^ n : Nat) : Int) := by
      rw [show ((2 : Int) ^ n) = ((2 ^ n : Nat) : Int) by simp, Int.ofNat_fdiv]
    have e4 : ¬ ((n : Int) < 0) := by omega
    simp [binOp, Op.shift, e1, e2, e4]
    rfl

theorem binK_some {op : BinOp} {x y : AV} {ty : TypeId} {v : AV} {a b : Value} (h : binK op x y = some v) (dx : Den ρ x a) (dy : Den ρ y b) (ox oy : Operand) :
    ∃ u, Den ρ v u ∧ (eqGuard op ty ox oy a b).run P w = .ok () w ∧ (binOp op ty a b).run P w = .ok u w := by
  obtain ⟨k, m, rfl, h1⟩ := onInt_some h
  obtain ⟨j, n, rfl, h2⟩ := onInt_some h1
  clear h h1
  have h := h2
  clear h2
  rw [forceK_eq] at h
  cases dx
  cases dy
  rcases ifB_or h with ⟨hs, h⟩ | ⟨hs, h⟩
  · obtain ⟨u, hu, hr⟩ := int_shift (P := P) (w := w) (ρ := ρ) (ty := ty) (j := j) h hs
    exact ⟨u, hu, eqGuard_int op ty ox oy k j m n, hr⟩
  · obtain ⟨hk, h9⟩ := ifB_some h
    have := kindNo_inj hk
    subst this
    obtain ⟨u, hu, hr⟩ := int_bin (P := P) (w := w) (ρ := ρ) (ty := ty) h9 hs
    exact ⟨u, hu, eqGuard_int op ty ox oy k k m n, hr⟩

theorem s_bin {op : BinOp} {ty yt : TypeId} {x y : Operand} {x' y' : AR} (ho : o.op = .binOp op ty x y yt) (hx : ofOperand x = some x') (hy : ofOperand y = some y') (he : EvRel ρ t e) (hw : WRel base ρ S w)
    (h : kBin op x' y' t S c = some z) : OpVal P ρ S e o w c z := by
  obtain ⟨v, hv, h⟩ := retO_some h
  obtain ⟨u, hu, h1, h2⟩ := binK_some (P := P) (w := w) (ty := ty) hv (he x x' hx) (he y y' hy) x y
  exact .pure h hw hu (by simp [execOp, ho, h1, h2])

theorem s_un {op : UnOp} {ty : TypeId} {x : Operand} {x' : AR} (ho : o.op = .unOp op ty x) (hx : ofOperand x = some x') (he : EvRel ρ t e) (hw : WRel base ρ S w) (h : kUn op x' t S c = some z) : OpVal P ρ S e o w c z := by
  obtain ⟨v, hv, h⟩ := retO_some h
  have hdx := he x x' hx
  cases op
  · obtain ⟨k, n, e1, h1⟩ := onInt_some (show uNeg _ = some v from hv)
    have := inK_some h1
    subst this
    rw [e1] at hdx
    generalize hex : e x = ex at hdx
    cases hdx
    have e9 : Int.sub 0 n = -n := by show 0 - n = -n; omega
    rw [e9] at h
    exact .pure h hw (.int _ _) (by simp [execOp, ho, hex, Op.unary, Op.intArith])
  · obtain ⟨k, n, e1, h1⟩ := onInt_some (show uXor _ = some v from hv)
    obtain ⟨h2, h3⟩ := ifB_some h1
    obtain ⟨m, rfl, h4⟩ := onNatI_some h3
    obtain ⟨h5, h6⟩ := ifB_some h4
    cases h6
    rw [e1] at hdx
    generalize hex : e x = ex at hdx
    cases hdx
    have h2 := ble_true h2
    have h5 : m < limK k := Nat.lt_of_lt_of_le (Nat.lt_succ_self m) (ble_true h5)
    have key : (BitVec.ofInt k.bits (if k.signed then -1 else k.max) ^^^ BitVec.ofInt k.bits (m : Int)).toNat = limK k - 1 - m := by
      have e2 : BitVec.ofInt k.bits (if k.signed then -1 else k.max) = BitVec.allOnes k.bits ∧ limK k = 2 ^ k.bits := by
        cases k <;> first | exact absurd h2 (by decide) | exact ⟨by decide, rfl⟩
      rw [e2.1, BitVec.allOnes_xor, BitVec.toNat_not, bv_small h5, e2.2]
    have hsm : limK k - 1 - m < limK k := by omega
    have e3 : (execOp e o).run P w = .ok (.value (.int k (Int.ofNat (limK k - 1 - m)))) w := by
      simp only [execOp, ho, hex, Op.unary, Op.intBits, key, wrap_small hsm]
      rfl
    exact .pure h hw (.int _ _) e3
  · obtain ⟨b, e1, h1⟩ := onBool_some (show uNot _ = some v from hv)
    cases h1
    rw [e1] at hdx
    generalize hex : e x = ex at hdx
    cases hdx
    rw [ifB_not] at h
    exact .pure h hw (.bool _) (by simp [execOp, ho, hex, Op.unary])
  · cases hv

theorem s_toInt {sr dst : TypeId} {x : Operand} {x' : AR} {j k : IntKind} (ho : o.op = .convert sr dst x) (hs : P.underlying sr = some (.int j)) (hd : P.underlying dst = some (.int k)) (hx : ofOperand x = some x') (he : EvRel ρ t e) (hw : WRel base ρ S w)
    (h : kToInt k x' t S c = some z) : OpVal P ρ S e o w c z := by
  obtain ⟨i, n, e1, h⟩ := onInt_some h
  obtain ⟨v, hv, h⟩ := retO_some h
  have := inK_some hv
  subst this
  have hdx := he x x' hx
  rw [e1] at hdx
  generalize hex : e x = ex at hdx
  cases hdx
  exact .pure h hw (.int _ _) (by simp [execOp, ho, hex, convert, run_underlying hs, run_underlying hd, Conv.intToInt])
end Go.Proofs.YtpochibfjpanhaaGreat.Exe
