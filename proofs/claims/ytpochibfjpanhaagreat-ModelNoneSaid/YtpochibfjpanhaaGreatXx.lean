/- A part of the machine that reckons a closed run, and of the proof that what it says the given program does. No conditions. -/
import Derived.Test.YtpochibfjpanhaaGreatXw
import Derived.ChangeKeysEq
set_option linter.unusedVariables false
set_option linter.unusedSimpArgs false
namespace Go.Proofs.YtpochibfjpanhaaGreat.Exe
open Go
variable {base w : World} {P : Program} {ρ : Rho} {S : AS} {t : T} {e : Operand → Value} {o : Oper} {c : K} {z : AV × Option AS}

/-! ### '==' of structs and arrays -/
def kindV : Value → Nat
  | .int k _ => kindNo k
  | .bool _ => 8
  | .string _ => 9
  | _ => 99
def expandL : List (Nat × Nat) → List Nat
  | [] => []
  | p :: r => List.replicate p.2 p.1 ++ expandL r
theorem spanL_eq : ∀ l, spanL l = (expandL l).length
  | [] => rfl
  | p :: r => by simp [spanL, expandL, spanL_eq r]
theorem expandL_append : ∀ a b, expandL (a ++ b) = expandL a ++ expandL b
  | [], b => rfl
  | p :: r, b => by simp [expandL, expandL_append r b]
theorem expandL_times (l : List (Nat × Nat)) : ∀ n, expandL (timesL n l) = (List.replicate n (expandL l)).flatten
  | 0 => rfl
  | n + 1 => by simp [timesL, expandL_append, expandL_times l n, List.replicate_succ]

theorem ifB_bool {c t : Bool} (h : ifB c t false = true) : c = true ∧ t = true := by
  cases c with
  | true => exact ⟨rfl, h⟩
  | false => exact absurd h (by intro h; cases h)
theorem ifB_cases {R : Type} {c : Bool} {t e r : R} (h : ifB c t e = r) : (c = true ∧ t = r) ∨ (c = false ∧ e = r) := ifB_or h

theorem byteVals_kind : ∀ l m, (byteVals l m).map kindV = List.replicate l 4
  | 0, _ => rfl
  | l + 1, m => by simp [byteVals, byteVals_kind l, kindV, kindNo, List.replicate_succ]
theorem kindOfC_den {c : AV} {u : Value} (h : kindOfC c < 10) (o : isOne c = true) (d : Den ρ c u) : kindV u = kindOfC c := by
  cases d <;> first | rfl | exact Bool.noConfusion (show false = true from o) | exact absurd h (by decide) | exact absurd (show (99 : Nat) < 10 from h) (by decide)

theorem fitK_some : ∀ {cs : List AV} {us : List Value} {lay : List (Nat × Nat)}, Cells ρ cs us → fitK cs lay = true → us.map kindV = expandL lay
  | [], us, lay, hc, h => by
    cases hc
    cases lay with
    | nil => rfl
    | cons p r => exact absurd h (by intro h; cases h)
  | c :: cs, us, lay, hc, h => by
    obtain ⟨xs, ys, rfl, hl, hr, hx⟩ := hc.head
    cases lay with
    | nil => exact absurd h (by intro h; cases h)
    | cons p r =>
      obtain ⟨k, n⟩ := p
      obtain ⟨h1, h2⟩ := ifB_bool (show ifB (ifB (Nat.blt k 10) (Nat.beq (kindOfC c) k) false) (ifB (Nat.blt (widthK c) n) (fitK cs ((k, n - widthK c) :: r)) (ifB (Nat.beq (widthK c) n) (fitK cs r) false)) false = true from h)
      obtain ⟨hk, h1⟩ := ifB_bool h1
      have h1 := beq_true h1
      have hk : k < 10 := ble_true hk
      have hxs : xs.map kindV = List.replicate (widthK c) k := by
        rcases hx with ⟨o, u, rfl, d⟩ | ⟨l, m, rfl, rfl⟩
        · rw [width_one o]
          show [kindV u] = [k]
          rw [kindOfC_den (by omega) o d, h1]
        · have : k = 4 := by rw [← h1]; rfl
          subst this
          exact byteVals_kind l m
      rw [List.map_append, hxs]
      rcases ifB_or h2 with ⟨hb, h2⟩ | ⟨hb, h2⟩
      · have hb : widthK c < n := Nat.lt_of_lt_of_le (Nat.lt_succ_self _) (ble_true hb)
        rw [fitK_some hr h2]
        show _ = List.replicate n k ++ expandL r
        show _ ++ (List.replicate (n - widthK c) k ++ expandL r) = _
        rw [← List.append_assoc, List.replicate_append_replicate]
        congr 2
        omega
      · obtain ⟨hb, h2⟩ := ifB_bool h2
        have hb := beq_true hb
        rw [fitK_some hr h2, hb]
        rfl

theorem byteVals_inj : ∀ (l m n : Nat), byteVals l m = byteVals l n → m % 256 ^ l = n % 256 ^ l
  | 0, m, n, _ => by simp [Nat.mod_one]
  | l + 1, m, n, h => by
    have h : Value.int .u8 ((m % 256 : Nat) : Int) :: byteVals l (m / 256) = Value.int .u8 ((n % 256 : Nat) : Int) :: byteVals l (n / 256) := h
    injection h with h1 h2
    injection h1 with _ h1
    have ih := byteVals_inj l _ _ h2
    rw [Nat.pow_succ, Nat.mul_comm, Nat.mod_mul, Nat.mod_mul, ih]
    omega

theorem sameRowK_cons (x : AV) (a : List AV) (y : AV) (b : List AV) : sameRowK (x :: a) (y :: b) = onSome (orElse (onInt x fun j m => onInt y fun k n => ifB (sameKind j k) (some (eqK m n)) none) (orElse (onBytes x fun l m => onBytes y fun k n => ifB (Nat.beq l k) (some (Nat.beq (m % 256 ^ l) (n % 256 ^ l))) none) (orElse (onBool x fun m => onBool y fun n => some (ifB m n (ifB n false true))) (onStr x fun m => onStr y fun n => some (strEq m n))))) fun e => ifB e (sameRowK a b) (some false) := rfl

theorem strEq_iff (a b : ByteArray) : strEq a b = true ↔ a = b := by
  rw [strEq_eq]
  constructor
  · intro h
    have h : a.data.toList = b.data.toList := by simpa using h
    cases a; cases b
    congr 1
    exact Array.toList_inj.1 h
  · intro h; subst h; simp

/-- Two segments, the first of two rows. -/
theorem same_head {x y : AV} {xs ys xs' ys' : List Value} {q : Bool} (hx : (isOne x = true ∧ ∃ u, xs = [u] ∧ Den ρ x u) ∨ (∃ l n, x = .bytes l n ∧ xs = byteVals l n)) (hy : (isOne y = true ∧ ∃ u, ys = [u] ∧ Den ρ y u) ∨ (∃ l n, y = .bytes l n ∧ ys = byteVals l n))
    (h : (orElse (onInt x fun j m => onInt y fun k n => ifB (sameKind j k) (some (eqK m n)) none) (orElse (onBytes x fun l m => onBytes y fun k n => ifB (Nat.beq l k) (some (Nat.beq (m % 256 ^ l) (n % 256 ^ l))) none) (orElse (onBool x fun m => onBool y fun n => some (ifB m n (ifB n false true))) (onStr x fun m => onStr y fun n => some (strEq m n))))) = some q) :
    xs.length = ys.length ∧ (q = true ↔ xs = ys) := by
  rcases orElse_some h with h | ⟨_, h⟩
  · obtain ⟨j, m, rfl, h⟩ := onInt_some h
    obtain ⟨k, n, rfl, h⟩ := onInt_some (show onInt y _ = some q from h)
    obtain ⟨hk, h9⟩ := ifB_some (show ifB (sameKind j k) (some (eqK m n)) none = some q from h)
    have := kindNo_inj hk
    subst this
    rcases hx with ⟨_, u, rfl, d⟩ | ⟨_, _, e, _⟩
    · cases d
      rcases hy with ⟨_, u, rfl, d⟩ | ⟨_, _, e, _⟩
      · cases d
        cases h9
        rw [eqK_eq]
        exact ⟨rfl, by simp⟩
      · cases e
    · cases e
  rcases orElse_some h with h | ⟨_, h⟩
  · obtain ⟨l, m, rfl, h⟩ := onBytes_some h
    obtain ⟨k, n, rfl, h⟩ := onBytes_some (show onBytes y _ = some q from h)
    obtain ⟨hk, h9⟩ := ifB_some (show ifB (Nat.beq l k) (some (Nat.beq (m % 256 ^ l) (n % 256 ^ l))) none = some q from h)
    have := beq_true hk
    subst this
    rcases hx with ⟨o, _⟩ | ⟨_, _, e, rfl⟩
    · exact Bool.noConfusion (show false = true from o)
    · cases e
      rcases hy with ⟨o, _⟩ | ⟨_, _, e, rfl⟩
      · exact Bool.noConfusion (show false = true from o)
      · cases e
        cases h9
        refine ⟨by rw [byteVals_length, byteVals_length], ?_⟩
        rw [beq_dec, decide_eq_true_eq]
        exact ⟨fun h => by rw [← byteVals_mod l m, h, byteVals_mod], byteVals_inj l m n⟩
  rcases orElse_some h with h | ⟨_, h⟩
  · obtain ⟨m, rfl, h⟩ := onBool_some h
    obtain ⟨n, rfl, h⟩ := onBool_some (show onBool y _ = some q from h)
    rcases hx with ⟨_, u, rfl, d⟩ | ⟨_, _, e, _⟩
    · cases d
      rcases hy with ⟨_, u, rfl, d⟩ | ⟨_, _, e, _⟩
      · cases d
        cases h
        refine ⟨rfl, ?_⟩
        cases m <;> cases n <;> simp [ifB]
      · cases e
    · cases e
  · obtain ⟨m, rfl, h⟩ := onStr_some h
    obtain ⟨n, rfl, h⟩ := onStr_some (show onStr y _ = some q from h)
    rcases hx with ⟨_, u, rfl, d⟩ | ⟨_, _, e, _⟩
    · cases d
      rcases hy with ⟨_, u, rfl, d⟩ | ⟨_, _, e, _⟩
      · cases d
        cases h
        refine ⟨rfl, ?_⟩
        rw [strEq_iff]
        simp
      · cases e
    · cases e

theorem sameRowK_some : ∀ {a b : List AV} {us vs : List Value} {r : Bool}, Cells ρ a us → Cells ρ b vs → sameRowK a b = some r → (r = true ↔ us = vs)
  | [], [], us, vs, r, ha, hb, h => by cases ha; cases hb; cases h; simp
  | [], y :: b, us, vs, r, ha, hb, h => by cases h
  | x :: a, [], us, vs, r, ha, hb, h => by cases h
  | x :: a, y :: b, us, vs, r, ha, hb, h => by
    obtain ⟨xs, xs', rfl, hl, hr, hx⟩ := ha.head
    obtain ⟨ys, ys', rfl, hl', hr', hy⟩ := hb.head
    rw [sameRowK_cons] at h
    obtain ⟨q, hq, h⟩ := onSome_some h
    obtain ⟨h1, h2⟩ := same_head (xs' := xs') (ys' := ys') hx hy hq
    rcases ifB_or h with ⟨rfl, h⟩ | ⟨rfl, h⟩
    · have ih := sameRowK_some hr hr' h
      rw [ih, h2.1 rfl]
      simp
    · cases h
      constructor
      · intro h; cases h
      · intro h
        have := (List.append_inj h h1).1
        exact absurd (h2.2 this) (by simp)
end Go.Proofs.YtpochibfjpanhaaGreat.Exe
