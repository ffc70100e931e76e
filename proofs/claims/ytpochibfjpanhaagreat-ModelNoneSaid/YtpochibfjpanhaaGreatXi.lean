/- A part of the machine that reckons a closed run, and of the proof that what it says the given program does. No conditions. -/
import Derived.Test.YtpochibfjpanhaaGreatXf
import Derived.Calls
set_option linter.unusedVariables false
set_option linter.unusedSimpArgs false
namespace Go.Proofs.YtpochibfjpanhaaGreat.Exe
open Go

/-! ### Constants and operands -/
theorem u8no_some {v : Value} {b : Nat} (h : u8no v = some b) : v = .int .u8 (Int.ofNat b) := by
  unfold u8no at h
  split at h
  · cases h; rfl
  · cases h
theorem oneOf_some {ρ : Rho} {v : Value} {c : AV} (h : oneOf v = some c) : isOne c = true ∧ Den ρ c v := by
  unfold oneOf at h
  split at h <;> cases h
  · exact ⟨rfl, .bool _⟩
  · exact ⟨rfl, .int _ _⟩
  · exact ⟨rfl, .str _⟩
  · exact ⟨rfl, .pnil⟩
  · exact ⟨rfl, .snil⟩
  · exact ⟨rfl, .mnil⟩
  · exact ⟨rfl, .fnil⟩
  · exact ⟨rfl, .inil⟩
theorem glue_cells {ρ : Rho} {b : Nat} (hb : b ≤ 255) : ∀ {cs : List AV} {us : List Value}, Cells ρ cs us → Cells ρ (glue (.bytes 1 b) cs) (.int .u8 (Int.ofNat b) :: us) := by
  have e1 : byteVals 1 b = [Value.int .u8 (Int.ofNat b)] := by show [Value.int .u8 ((b % 256 : Nat) : Int)] = _; rw [Nat.mod_eq_of_lt (by omega)]; rfl
  intro cs us ih
  have plain : Cells ρ (.bytes 1 b :: cs) (.int .u8 (Int.ofNat b) :: us) := by
    have := Cells.bytes (ρ := ρ) (l := 1) (n := b) ih
    rw [e1] at this
    exact this
  cases cs with
  | nil => exact plain
  | cons c r =>
    cases c with
    | bytes k n =>
      cases ih with
      | @bytes _ _ _ us' ih =>
        have e3 : byteVals (1 + k) (b + n * 2 ^ (8 * 1)) = Value.int .u8 (Int.ofNat b) :: byteVals k n := by
          rw [byteVals_add 1 k, show b + n * 2 ^ (8 * 1) = b + 256 ^ 1 * n by omega, byteVals_low, e1, Nat.add_mul_div_left _ _ (by decide), Nat.div_eq_of_lt (by omega), Nat.zero_add]
          rfl
        have := Cells.bytes (ρ := ρ) (l := 1 + k) (n := b + n * 2 ^ (8 * 1)) ih
        rw [e3] at this
        exact this
      | one o _ _ => exact Bool.noConfusion (show false = true from o)
    | _ => exact plain
theorem packCells_some {ρ : Rho} : ∀ {l : List Value} {cs : List AV}, packCells l = some cs → Cells ρ cs l
  | [], cs, h => by cases h; exact .nil
  | v :: r, cs, h => by
    unfold packCells at h
    cases hr : packCells r with
    | none => rw [hr] at h; cases h
    | some ds =>
      rw [hr] at h
      have ih := packCells_some (ρ := ρ) hr
      simp only [Option.bind_some] at h
      cases hu : u8no v with
      | some b =>
        rw [hu] at h
        have hv := u8no_some hu
        subst hv
        simp only at h
        cases hb : Nat.ble b 255 with
        | false => rw [hb] at h; cases h; exact .one rfl (.int _ _) ih
        | true => rw [hb] at h; cases h; exact glue_cells (ble_true hb) ih
      | none =>
        rw [hu] at h
        simp only at h
        cases ho : oneOf v with
        | none => rw [ho] at h; cases h
        | some c =>
          rw [ho] at h
          cases h
          obtain ⟨h1, h2⟩ := oneOf_some (ρ := ρ) ho
          exact .one h1 h2 ih
theorem noneOf_true {A : Type} {l : List A} (h : noneOf l = true) : l = [] := by
  cases l with
  | nil => rfl
  | cons a r => cases h
theorem toList_nil {A : Type} {a : Array A} (h : a.toList = []) : a = #[] := by simpa using h

theorem ofValue_some {ρ : Rho} {v : Value} {c : AV} (h : ofValue v = some c) : Den ρ c v := by
  unfold ofValue at h
  split at h
  · rename_i cs
    cases hp : packCells cs.toList with
    | none => rw [hp] at h; cases h
    | some ds => rw [hp] at h; cases h; exact .agg (packCells_some hp)
  · rename_i f a b
    cases hn : (noneOf a.toList && noneOf b.toList) with
    | false => rw [hn] at h; cases h
    | true =>
      rw [hn] at h
      cases h
      rw [Bool.and_eq_true] at hn
      rw [toList_nil (noneOf_true hn.1), toList_nil (noneOf_true hn.2)]
      exact .fn .nil .nil
  · rename_i vs
    cases hn : noneOf vs.toList with
    | false => rw [hn] at h; cases h
    | true =>
      rw [hn] at h
      cases h
      rw [toList_nil (noneOf_true hn)]
      exact .tup .nil
  · exact (oneOf_some h).2

def EvRel (ρ : Rho) (t : T) (e : Operand → Value) : Prop := ∀ x y, ofOperand x = some y → Den ρ (ev y t) (e x)
def TRel (ρ : Rho) (t : T) (a : Act) : Prop := ∀ n, Den ρ (evTmp (pathOf n) t) (a.tmps.getD n undef)

theorem TRel.ev {ρ : Rho} {t : T} {a : Act} (h : TRel ρ t a) : EvRel ρ t a.eval := fun x y hx => by
  cases x with
  | tmp n => cases hx; exact h n
  | const v =>
    cases hv : ofValue v with
    | none => simp [ofOperand, hv] at hx
    | some c => simp [ofOperand, hv] at hx; subst hx; exact ofValue_some hv
  | global g => cases hx
  | func f => cases hx; exact .fn .nil .nil

theorem TRel.mono {ρ σ : Rho} {t : T} {a : Act} (h : TRel ρ t a) (hl : ρ.le σ) : TRel σ t a := fun n => (h n).mono hl
theorem EvRel.mono {ρ σ : Rho} {t : T} {e : Operand → Value} (h : EvRel ρ t e) (hl : ρ.le σ) : EvRel σ t e := fun x y hx => (h x y hx).mono hl

theorem TRel.put {ρ : Rho} {t : T} {a : Act} (h : TRel ρ t a) {v : AV} {u : Value} (hv : Den ρ v u) (d : Nat) (hd : d < a.tmps.size) : TRel ρ (T.setP v (pathOf d) t) (a.put (some d) u) := fun n => by
  show Den ρ (evTmp (pathOf n) _) ((a.tmps.setIfInBounds d u).getD n undef)
  by_cases hn : n = d
  · subst hn
    have e1 : evTmp (pathOf n) (T.setP v (pathOf n) t) = v := get_setP v _ t
    have e2 : (a.tmps.setIfInBounds n u).getD n undef = u := by simp [Array.getD, hd]
    rw [e1, e2]
    exact hv
  · have e1 : evTmp (pathOf n) (T.setP v (pathOf d) t) = evTmp (pathOf n) t := get_setP_ne v (fun e => hn (pathOf_inj e)) t
    have e2 : (a.tmps.setIfInBounds d u).getD n undef = a.tmps.getD n undef := by
      rw [Array.getD_eq_getD_getElem?, Array.getD_eq_getD_getElem?, Array.getElem?_setIfInBounds_ne (fun e => hn e.symm)]
    rw [e1, e2]
    exact h n

/-! ### What an operation must show -/
def OpPost (base : World) (P : Program) (ρ : Rho) (S : AS) (e : Operand → Value) (o : Oper) (w : World) (c : K) (z : AV × Option AS) : Prop :=
  ∃ v S' ρ' w' u, c v S' = some z ∧ ρ.le ρ' ∧ Keep ρ ρ' S S' ∧ WRel base ρ' S' w' ∧ Den ρ' v u ∧ ((execOp e o).run P w = .ok (.value u) w' ∨ ((execOp e o).run P w = .ok .skip w' ∧ u = undef))
/-- A value, the world as it was. -/
def OpVal (P : Program) (ρ : Rho) (S : AS) (e : Operand → Value) (o : Oper) (w : World) (c : K) (z : AV × Option AS) : Prop :=
  ∃ v u, c v S = some z ∧ Den ρ v u ∧ (execOp e o).run P w = .ok (.value u) w
/-- A new object, whatever its number; 'x': how many elements more the tape gives it. -/
def OpMk (P : Program) (ρ : Rho) (e : Operand → Value) (o : Oper) (w : World) (ob : AObj) (vf : Nat → AV) : Prop :=
  ∃ (x : Nat) (u : Obj) (uv : Value) (w1 : World), (w1 = w ∨ w1 = w.drew) ∧ (∀ ρ' : Rho, ρ.le ρ' → ORel ρ' x ob u) ∧ (∀ (ρ' : Rho) (b : Nat), ρ' b = some (w.heap.size, x) → Den ρ' (vf b) uv) ∧ (execOp e o).run P w = .ok (.value uv) (w1.alloc u)

variable {base w : World} {P : Program} {ρ : Rho} {S : AS} {t : T} {e : Operand → Value} {o : Oper} {c : K} {z : AV × Option AS}

theorem OpVal.pure {v : AV} {u : Value} (h : c v S = some z) (_hw : WRel base ρ S w) (hv : Den ρ v u) (hr : (execOp e o).run P w = .ok (.value u) w) : OpVal P ρ S e o w c z :=
  ⟨v, u, h, hv, hr⟩
theorem OpVal.post (h : OpVal P ρ S e o w c z) (hw : WRel base ρ S w) : OpPost base P ρ S e o w c z :=
  let ⟨v, u, h, hv, hr⟩ := h; ⟨v, S, ρ, w, u, h, ρ.le_refl, .refl ρ S, hw, hv, .inl hr⟩
theorem OpMk.post {ob : AObj} {vf : Nat → AV} (h : OpMk P ρ e o w ob vf) (hw : WRel base ρ S w) (hc : newK S ob (fun b S => c (vf b) S) = some z) : OpPost base P ρ S e o w c z := by
  obtain ⟨x, u, uv, w1, hw1, h1, h2, h3⟩ := h
  have hc := newK_some hc
  have hle := Rho.le_add (r := (w.heap.size, x)) (hw.dom _ (Nat.le_refl _))
  have hal : WRel base (ρ.add S.next (w.heap.size, x)) { heap := S.heap.setK (some ob) S.next, next := Nat.succ S.next } (w1.alloc u) := by
    rcases hw1 with rfl | rfl
    · exact hw.alloc _ _ x (h1 _ hle)
    · exact hw.drew.alloc _ _ x (h1 _ hle)
  exact ⟨_, _, _, _, _, hc, hle, .new, hal, h2 _ _ (Rho.add_same _ _ _), .inl h3⟩
/-- A row of cells. -/
theorem OpMk.cells {el : TypeId} {es : Nat} {cs : List AV} {us : List Value} {vf : Nat → AV} {uf : Nat → Value} (hc : Cells ρ cs us) (hv : ∀ (ρ' : Rho) (b r : Nat), ρ' b = some (r, 0) → Den ρ' (vf b) (uf r))
    (hr : (execOp e o).run P w = .ok (.value (uf w.heap.size)) (w.alloc (.cells us.toArray el))) : OpMk P ρ e o w (.cells el es cs) vf :=
  ⟨0, _, _, w, .inl rfl, fun ρ' hle => by
    have := ORel.cells (ρ := ρ') (x := 0) (e := el) (z := es) (tail := []) (fz := (0, 0)) (hc.mono hle) (by simp) (.inl rfl)
    rwa [List.append_nil] at this, fun ρ' b h => hv ρ' b _ h, hr⟩

theorem retO_some {x : Option AV} (h : retO x S c = some z) : ∃ v, x = some v ∧ c v S = some z := onSome_some h

theorem s_move {x : Operand} {y : AR} (ho : o.op = .move x ∨ o.op = .assign x) (hx : ofOperand x = some y) (he : EvRel ρ t e) (hw : WRel base ρ S w) (h : kMv y t S c = some z) : OpVal P ρ S e o w c z :=
  .pure h hw (he x y hx) (by rcases ho with ho | ho <;> simp [execOp, ho])

theorem s_pick {x a b : Operand} {y a' b' : AR} (ho : o.op = .pick x a b) (hx : ofOperand x = some y) (ha : ofOperand a = some a') (hb : ofOperand b = some b') (he : EvRel ρ t e) (hw : WRel base ρ S w)
    (h : kPick y a' b' t S c = some z) : OpVal P ρ S e o w c z := by
  obtain ⟨b1, hv, h⟩ := onBool_some h
  have hd := he x y hx
  rw [hv] at hd
  generalize hex : e x = ex at hd
  cases hd
  rcases ifB_or h with ⟨rfl, h⟩ | ⟨rfl, h⟩
  · exact .pure h hw (he a a' ha) (by simp [execOp, ho, hex, asBool])
  · exact .pure h hw (he b b' hb) (by simp [execOp, ho, hex, asBool])

theorem s_fieldAddr {ty : TypeId} {x : Operand} {y : AR} {i : Nat} {fs : Array Field} {f : Field} (ho : o.op = .fieldAddr ty x i) (hu : P.underlying ty = some (.struct fs)) (hf : fs[i]? = some f) (hs : ∃ n, (P.info? f.type).map (·.size) = some n ∧ n ≠ 0)
    (hx : ofOperand x = some y) (he : EvRel ρ t e) (hw : WRel base ρ S w) (h : kFieldAddr f.offset y t S c = some z) : OpVal P ρ S e o w c z := by
  obtain ⟨b, q, hv, h⟩ := onPtr_some h
  rw [forceN_eq] at h
  have hd := he x y hx
  rw [hv] at hd
  generalize hex : e x = ex at hd
  cases hd with
  | @ptr _ _ r x' hρ =>
    obtain ⟨n, hn, hn0⟩ := hs
    refine .pure h hw (.ptr hρ) ?_
    cases hi : P.info? f.type with
    | none => rw [hi] at hn; cases hn
    | some ti =>
      have : ti.size = n := by rw [hi] at hn; simpa using hn
      simp [execOp, ho, hex, Instr.fieldAt, run_underlying hu, hf, Instr.sureAddr, fieldPlace, sizeOf, typeInfo, hi, this, hn0]
      unfold Addr.add
      split
      · rename_i h0; simp [h0]
      · rfl
end Go.Proofs.YtpochibfjpanhaaGreat.Exe
