/- A part of the machine that reckons a closed run, and of the proof that what it says the given program does. No conditions. -/
import Derived.Test.YtpochibfjpanhaaGreatXo
set_option linter.unusedVariables false
set_option linter.unusedSimpArgs false
namespace Go.Proofs.YtpochibfjpanhaaGreat.Exe
open Go

/-! ### What the kernel reckons with: recursors, their small cases closed -/
noncomputable def ifB {R : Type} (c : Bool) (t e : R) : R := Bool.rec e t c
theorem ifB_true {R : Type} (t e : R) : ifB true t e = t := rfl
theorem ifB_false {R : Type} (t e : R) : ifB false t e = e := rfl
noncomputable def onSome {A R : Type} (o : Option A) (k : A → Option R) : Option R := Option.rec none k o
theorem onSome_some {A R : Type} {o : Option A} {k : A → Option R} {r : R} (h : onSome o k = some r) : ∃ a, o = some a ∧ k a = some r := by
  cases o with
  | none => exact absurd h (by intro h; cases h)
  | some a => exact ⟨a, rfl, h⟩
theorem ifB_some {R : Type} {c : Bool} {t : Option R} {r : R} (h : ifB c t none = some r) : c = true ∧ t = some r := by
  cases c with
  | true => exact ⟨rfl, h⟩
  | false => exact absurd h (by intro h; cases h)
theorem ifB_or {R : Type} {c : Bool} {t e r : R} (h : ifB c t e = r) : (c = true ∧ t = r) ∨ (c = false ∧ e = r) := by
  cases c with
  | true => exact .inl ⟨rfl, h⟩
  | false => exact .inr ⟨rfl, h⟩
noncomputable def onNatI {R : Type} (n : Int) : (Nat → Option R) → Option R := Int.rec (motive := fun _ => (Nat → Option R) → Option R) (fun n k => k n) (fun _ _ => none) n
theorem onNatI_some {R : Type} {n : Int} {k : Nat → Option R} {r : R} (h : onNatI n k = some r) : ∃ m : Nat, n = m ∧ k m = some r := by
  cases n with
  | ofNat m => exact ⟨m, rfl, h⟩
  | negSucc m => exact absurd h (by intro h; cases h)
noncomputable def onBool {R : Type} (v : AV) : (Bool → Option R) → Option R :=
  AV.rec (motive_1 := fun _ => (Bool → Option R) → Option R) (motive_2 := fun _ => (Bool → Option R) → Option R)
    (fun x0 k => k x0) (fun _ _ _ => none) (fun _ _ => none) (fun _ => none) (fun _ _ _ => none) (fun _ => none) (fun _ _ _ _ _ _ => none) (fun _ => none) (fun _ _ => none) (fun _ => none) (fun _ _ _ _ _ _ => none) (fun _ => none) (fun _ _ _ _ => none) (fun _ _ _ => none) (fun _ _ _ => none) (fun _ _ _ => none) (fun _ => none) (fun _ _ => none) (fun _ => none) (fun _ _ _ => none) (fun _ _ => none) (fun _ => none) (fun _ _ _ _ _ => none) v
theorem onBool_some {R : Type} {v : AV} {k : Bool → Option R} {r : R} (h : onBool v k = some r) : ∃ x0, v = .bool x0 ∧ k x0 = some r := by
  cases v <;> first | exact ⟨_, rfl, h⟩ | exact absurd h (by intro h; cases h)
noncomputable def onInt {R : Type} (v : AV) : (IntKind → Int → Option R) → Option R :=
  AV.rec (motive_1 := fun _ => (IntKind → Int → Option R) → Option R) (motive_2 := fun _ => (IntKind → Int → Option R) → Option R)
    (fun _ _ => none) (fun x0 x1 k => k x0 x1) (fun _ _ => none) (fun _ => none) (fun _ _ _ => none) (fun _ => none) (fun _ _ _ _ _ _ => none) (fun _ => none) (fun _ _ => none) (fun _ => none) (fun _ _ _ _ _ _ => none) (fun _ => none) (fun _ _ _ _ => none) (fun _ _ _ => none) (fun _ _ _ => none) (fun _ _ _ => none) (fun _ => none) (fun _ _ => none) (fun _ => none) (fun _ _ _ => none) (fun _ _ => none) (fun _ => none) (fun _ _ _ _ _ => none) v
theorem onInt_some {R : Type} {v : AV} {k : IntKind → Int → Option R} {r : R} (h : onInt v k = some r) : ∃ x0 x1, v = .int x0 x1 ∧ k x0 x1 = some r := by
  cases v <;> first | exact ⟨_, _, rfl, h⟩ | exact absurd h (by intro h; cases h)
noncomputable def onStr {R : Type} (v : AV) : (ByteArray → Option R) → Option R :=
  AV.rec (motive_1 := fun _ => (ByteArray → Option R) → Option R) (motive_2 := fun _ => (ByteArray → Option R) → Option R)
    (fun _ _ => none) (fun _ _ _ => none) (fun x0 k => k x0) (fun _ => none) (fun _ _ _ => none) (fun _ => none) (fun _ _ _ _ _ _ => none) (fun _ => none) (fun _ _ => none) (fun _ => none) (fun _ _ _ _ _ _ => none) (fun _ => none) (fun _ _ _ _ => none) (fun _ _ _ => none) (fun _ _ _ => none) (fun _ _ _ => none) (fun _ => none) (fun _ _ => none) (fun _ => none) (fun _ _ _ => none) (fun _ _ => none) (fun _ => none) (fun _ _ _ _ _ => none) v
theorem onStr_some {R : Type} {v : AV} {k : ByteArray → Option R} {r : R} (h : onStr v k = some r) : ∃ x0, v = .str x0 ∧ k x0 = some r := by
  cases v <;> first | exact ⟨_, rfl, h⟩ | exact absurd h (by intro h; cases h)
noncomputable def onPtr {R : Type} (v : AV) : (Nat → Nat → Option R) → Option R :=
  AV.rec (motive_1 := fun _ => (Nat → Nat → Option R) → Option R) (motive_2 := fun _ => (Nat → Nat → Option R) → Option R)
    (fun _ _ => none) (fun _ _ _ => none) (fun _ _ => none) (fun _ => none) (fun x0 x1 k => k x0 x1) (fun _ => none) (fun _ _ _ _ _ _ => none) (fun _ => none) (fun _ _ => none) (fun _ => none) (fun _ _ _ _ _ _ => none) (fun _ => none) (fun _ _ _ _ => none) (fun _ _ _ => none) (fun _ _ _ => none) (fun _ _ _ => none) (fun _ => none) (fun _ _ => none) (fun _ => none) (fun _ _ _ => none) (fun _ _ => none) (fun _ => none) (fun _ _ _ _ _ => none) v
theorem onPtr_some {R : Type} {v : AV} {k : Nat → Nat → Option R} {r : R} (h : onPtr v k = some r) : ∃ x0 x1, v = .ptr x0 x1 ∧ k x0 x1 = some r := by
  cases v <;> first | exact ⟨_, _, rfl, h⟩ | exact absurd h (by intro h; cases h)
noncomputable def onSl {R : Type} (v : AV) : (Nat → Nat → Nat → Nat → Bool → Option R) → Option R :=
  AV.rec (motive_1 := fun _ => (Nat → Nat → Nat → Nat → Bool → Option R) → Option R) (motive_2 := fun _ => (Nat → Nat → Nat → Nat → Bool → Option R) → Option R)
    (fun _ _ => none) (fun _ _ _ => none) (fun _ _ => none) (fun _ => none) (fun _ _ _ => none) (fun _ => none) (fun x0 x1 x2 x3 x4 k => k x0 x1 x2 x3 x4) (fun _ => none) (fun _ _ => none) (fun _ => none) (fun _ _ _ _ _ _ => none) (fun _ => none) (fun _ _ _ _ => none) (fun _ _ _ => none) (fun _ _ _ => none) (fun _ _ _ => none) (fun _ => none) (fun _ _ => none) (fun _ => none) (fun _ _ _ => none) (fun _ _ => none) (fun _ => none) (fun _ _ _ _ _ => none) v
theorem onSl_some {R : Type} {v : AV} {k : Nat → Nat → Nat → Nat → Bool → Option R} {r : R} (h : onSl v k = some r) : ∃ x0 x1 x2 x3 x4, v = .sl x0 x1 x2 x3 x4 ∧ k x0 x1 x2 x3 x4 = some r := by
  cases v <;> first | exact ⟨_, _, _, _, _, rfl, h⟩ | exact absurd h (by intro h; cases h)
noncomputable def onMap {R : Type} (v : AV) : (Nat → Option R) → Option R :=
  AV.rec (motive_1 := fun _ => (Nat → Option R) → Option R) (motive_2 := fun _ => (Nat → Option R) → Option R)
    (fun _ _ => none) (fun _ _ _ => none) (fun _ _ => none) (fun _ => none) (fun _ _ _ => none) (fun _ => none) (fun _ _ _ _ _ _ => none) (fun _ => none) (fun x0 k => k x0) (fun _ => none) (fun _ _ _ _ _ _ => none) (fun _ => none) (fun _ _ _ _ => none) (fun _ _ _ => none) (fun _ _ _ => none) (fun _ _ _ => none) (fun _ => none) (fun _ _ => none) (fun _ => none) (fun _ _ _ => none) (fun _ _ => none) (fun _ => none) (fun _ _ _ _ _ => none) v
theorem onMap_some {R : Type} {v : AV} {k : Nat → Option R} {r : R} (h : onMap v k = some r) : ∃ x0, v = .map x0 ∧ k x0 = some r := by
  cases v <;> first | exact ⟨_, rfl, h⟩ | exact absurd h (by intro h; cases h)
noncomputable def onFn {R : Type} (v : AV) : (FuncId → List AV → List AV → Option R) → Option R :=
  AV.rec (motive_1 := fun _ => (FuncId → List AV → List AV → Option R) → Option R) (motive_2 := fun _ => (FuncId → List AV → List AV → Option R) → Option R)
    (fun _ _ => none) (fun _ _ _ => none) (fun _ _ => none) (fun _ => none) (fun _ _ _ => none) (fun _ => none) (fun _ _ _ _ _ _ => none) (fun _ => none) (fun _ _ => none) (fun _ => none) (fun x0 x1 x2 _ _ k => k x0 x1 x2) (fun _ => none) (fun _ _ _ _ => none) (fun _ _ _ => none) (fun _ _ _ => none) (fun _ _ _ => none) (fun _ => none) (fun _ _ => none) (fun _ => none) (fun _ _ _ => none) (fun _ _ => none) (fun _ => none) (fun _ _ _ _ _ => none) v
theorem onFn_some {R : Type} {v : AV} {k : FuncId → List AV → List AV → Option R} {r : R} (h : onFn v k = some r) : ∃ x0 x1 x2, v = .fn x0 x1 x2 ∧ k x0 x1 x2 = some r := by
  cases v <;> first | exact ⟨_, _, _, rfl, h⟩ | exact absurd h (by intro h; cases h)
noncomputable def onIfc {R : Type} (v : AV) : (TypeId → AV → Option R) → Option R :=
  AV.rec (motive_1 := fun _ => (TypeId → AV → Option R) → Option R) (motive_2 := fun _ => (TypeId → AV → Option R) → Option R)
    (fun _ _ => none) (fun _ _ _ => none) (fun _ _ => none) (fun _ => none) (fun _ _ _ => none) (fun _ => none) (fun _ _ _ _ _ _ => none) (fun _ => none) (fun _ _ => none) (fun _ => none) (fun _ _ _ _ _ _ => none) (fun _ => none) (fun x0 x1 _ k => k x0 x1) (fun _ _ _ => none) (fun _ _ _ => none) (fun _ _ _ => none) (fun _ => none) (fun _ _ => none) (fun _ => none) (fun _ _ _ => none) (fun _ _ => none) (fun _ => none) (fun _ _ _ _ _ => none) v
theorem onIfc_some {R : Type} {v : AV} {k : TypeId → AV → Option R} {r : R} (h : onIfc v k = some r) : ∃ x0 x1, v = .ifc x0 x1 ∧ k x0 x1 = some r := by
  cases v <;> first | exact ⟨_, _, rfl, h⟩ | exact absurd h (by intro h; cases h)
noncomputable def onAgg {R : Type} (v : AV) : (List AV → Option R) → Option R :=
  AV.rec (motive_1 := fun _ => (List AV → Option R) → Option R) (motive_2 := fun _ => (List AV → Option R) → Option R)
    (fun _ _ => none) (fun _ _ _ => none) (fun _ _ => none) (fun _ => none) (fun _ _ _ => none) (fun _ => none) (fun _ _ _ _ _ _ => none) (fun _ => none) (fun _ _ => none) (fun _ => none) (fun _ _ _ _ _ _ => none) (fun _ => none) (fun _ _ _ _ => none) (fun x0 _ k => k x0) (fun _ _ _ => none) (fun _ _ _ => none) (fun _ => none) (fun _ _ => none) (fun _ => none) (fun _ _ _ => none) (fun _ _ => none) (fun _ => none) (fun _ _ _ _ _ => none) v
theorem onAgg_some {R : Type} {v : AV} {k : List AV → Option R} {r : R} (h : onAgg v k = some r) : ∃ x0, v = .agg x0 ∧ k x0 = some r := by
  cases v <;> first | exact ⟨_, rfl, h⟩ | exact absurd h (by intro h; cases h)
noncomputable def onBytes {R : Type} (v : AV) : (Nat → Nat → Option R) → Option R :=
  AV.rec (motive_1 := fun _ => (Nat → Nat → Option R) → Option R) (motive_2 := fun _ => (Nat → Nat → Option R) → Option R)
    (fun _ _ => none) (fun _ _ _ => none) (fun _ _ => none) (fun _ => none) (fun _ _ _ => none) (fun _ => none) (fun _ _ _ _ _ _ => none) (fun _ => none) (fun _ _ => none) (fun _ => none) (fun _ _ _ _ _ _ => none) (fun _ => none) (fun _ _ _ _ => none) (fun _ _ _ => none) (fun x0 x1 k => k x0 x1) (fun _ _ _ => none) (fun _ => none) (fun _ _ => none) (fun _ => none) (fun _ _ _ => none) (fun _ _ => none) (fun _ => none) (fun _ _ _ _ _ => none) v
theorem onBytes_some {R : Type} {v : AV} {k : Nat → Nat → Option R} {r : R} (h : onBytes v k = some r) : ∃ x0 x1, v = .bytes x0 x1 ∧ k x0 x1 = some r := by
  cases v <;> first | exact ⟨_, _, rfl, h⟩ | exact absurd h (by intro h; cases h)
noncomputable def onTup {R : Type} (v : AV) : (List AV → Option R) → Option R :=
  AV.rec (motive_1 := fun _ => (List AV → Option R) → Option R) (motive_2 := fun _ => (List AV → Option R) → Option R)
    (fun _ _ => none) (fun _ _ _ => none) (fun _ _ => none) (fun _ => none) (fun _ _ _ => none) (fun _ => none) (fun _ _ _ _ _ _ => none) (fun _ => none) (fun _ _ => none) (fun _ => none) (fun _ _ _ _ _ _ => none) (fun _ => none) (fun _ _ _ _ => none) (fun _ _ _ => none) (fun _ _ _ => none) (fun x0 _ k => k x0) (fun _ => none) (fun _ _ => none) (fun _ => none) (fun _ _ _ => none) (fun _ _ => none) (fun _ => none) (fun _ _ _ _ _ => none) v
theorem onTup_some {R : Type} {v : AV} {k : List AV → Option R} {r : R} (h : onTup v k = some r) : ∃ x0, v = .tup x0 ∧ k x0 = some r := by
  cases v <;> first | exact ⟨_, rfl, h⟩ | exact absurd h (by intro h; cases h)
noncomputable def onYl {R : Type} (v : AV) : (Nat → Option R) → Option R :=
  AV.rec (motive_1 := fun _ => (Nat → Option R) → Option R) (motive_2 := fun _ => (Nat → Option R) → Option R)
    (fun _ _ => none) (fun _ _ _ => none) (fun _ _ => none) (fun _ => none) (fun _ _ _ => none) (fun _ => none) (fun _ _ _ _ _ _ => none) (fun _ => none) (fun _ _ => none) (fun _ => none) (fun _ _ _ _ _ _ => none) (fun _ => none) (fun _ _ _ _ => none) (fun _ _ _ => none) (fun _ _ _ => none) (fun _ _ _ => none) (fun _ => none) (fun x0 k => k x0) (fun _ => none) (fun _ _ _ => none) (fun _ _ => none) (fun _ => none) (fun _ _ _ _ _ => none) v
theorem onYl_some {R : Type} {v : AV} {k : Nat → Option R} {r : R} (h : onYl v k = some r) : ∃ x0, v = .yl x0 ∧ k x0 = some r := by
  cases v <;> first | exact ⟨_, rfl, h⟩ | exact absurd h (by intro h; cases h)
noncomputable def onRaw {R : Type} (v : AV) : (Nat → Nat → Option R) → Option R :=
  AV.rec (motive_1 := fun _ => (Nat → Nat → Option R) → Option R) (motive_2 := fun _ => (Nat → Nat → Option R) → Option R)
    (fun _ _ => none) (fun _ _ _ => none) (fun _ _ => none) (fun _ => none) (fun _ _ _ => none) (fun _ => none) (fun _ _ _ _ _ _ => none) (fun _ => none) (fun _ _ => none) (fun _ => none) (fun _ _ _ _ _ _ => none) (fun _ => none) (fun _ _ _ _ => none) (fun _ _ _ => none) (fun _ _ _ => none) (fun _ _ _ => none) (fun _ => none) (fun _ _ => none) (fun _ => none) (fun x0 x1 k => k x0 x1) (fun _ _ => none) (fun _ => none) (fun _ _ _ _ _ => none) v
theorem onRaw_some {R : Type} {v : AV} {k : Nat → Nat → Option R} {r : R} (h : onRaw v k = some r) : ∃ x0 x1, v = .raw x0 x1 ∧ k x0 x1 = some r := by
  cases v <;> first | exact ⟨_, _, rfl, h⟩ | exact absurd h (by intro h; cases h)
noncomputable def onLit {R : Type} (v : AV) : (Value → Option R) → Option R :=
  AV.rec (motive_1 := fun _ => (Value → Option R) → Option R) (motive_2 := fun _ => (Value → Option R) → Option R)
    (fun _ _ => none) (fun _ _ _ => none) (fun _ _ => none) (fun _ => none) (fun _ _ _ => none) (fun _ => none) (fun _ _ _ _ _ _ => none) (fun _ => none) (fun _ _ => none) (fun _ => none) (fun _ _ _ _ _ _ => none) (fun _ => none) (fun _ _ _ _ => none) (fun _ _ _ => none) (fun _ _ _ => none) (fun _ _ _ => none) (fun _ => none) (fun _ _ => none) (fun _ => none) (fun _ _ _ => none) (fun x0 k => k x0) (fun _ => none) (fun _ _ _ _ _ => none) v
theorem onLit_some {R : Type} {v : AV} {k : Value → Option R} {r : R} (h : onLit v k = some r) : ∃ x0, v = .lit x0 ∧ k x0 = some r := by
  cases v <;> first | exact ⟨_, rfl, h⟩ | exact absurd h (by intro h; cases h)
noncomputable def onNat {R : Type} (v : AV) (k : Nat → Option R) : Option R := onInt v fun _ n => onNatI n k
theorem onNat_some {R : Type} {v : AV} {k : Nat → Option R} {r : R} (h : onNat v k = some r) : ∃ (kd : IntKind) (m : Nat), v = .int kd m ∧ k m = some r := by
  obtain ⟨kd, n, rfl, h⟩ := onInt_some h
  obtain ⟨m, rfl, h⟩ := onNatI_some h
  exact ⟨kd, m, rfl, h⟩

/-- 'k n', 'n' reckoned first. -/
noncomputable def forceN {R : Type} (n : Nat) (k : Nat → R) : R := Nat.rec (motive := fun _ => R) (k 0) (fun m _ => k (Nat.succ m)) n
theorem forceN_eq {R : Type} (n : Nat) (k : Nat → R) : forceN n k = k n := by cases n <;> rfl
noncomputable def forceI {R : Type} (n : Int) (k : Int → R) : R := Int.rec (motive := fun _ => R) (fun a => forceN a fun a => k (.ofNat a)) (fun a => forceN a fun a => k (.negSucc a)) n
theorem forceI_eq {R : Type} (n : Int) (k : Int → R) : forceI n k = k n := by cases n <;> simp [forceI, forceN_eq]

/-! #### The trie -/
noncomputable def PT.getK {α : Type} (t : PT α) : Nat → Option α :=
  PT.rec (motive := fun _ => Nat → Option α) (fun _ => none)
    (fun _ v _ gl gr n => ifB (Nat.beq n 0) v (ifB (Nat.beq (Nat.mod n 2) 1) (gl (Nat.div n 2)) (gr (Nat.sub (Nat.div n 2) 1)))) t
noncomputable def PT.oneK {α : Type} (v : Option α) (f : Nat) : Nat → PT α :=
  Nat.rec (motive := fun _ => Nat → PT α) (fun _ => .nil)
    (fun _ s n => ifB (Nat.beq n 0) (.node .nil v .nil) (ifB (Nat.beq (Nat.mod n 2) 1) (.node (s (Nat.div n 2)) none .nil) (.node .nil none (s (Nat.sub (Nat.div n 2) 1))))) f
noncomputable def PT.setK {α : Type} (v : Option α) (t : PT α) : Nat → PT α :=
  PT.rec (motive := fun _ => Nat → PT α) (PT.oneK v 64)
    (fun l u r sl sr n => ifB (Nat.beq n 0) (.node l v r) (ifB (Nat.beq (Nat.mod n 2) 1) (.node (sl (Nat.div n 2)) u r) (.node l u (sr (Nat.sub (Nat.div n 2) 1))))) t

theorem ifBeq {R : Type} (n m : Nat) (t e : R) : ifB (Nat.beq n m) t e = if n = m then t else e := by
  by_cases h : n = m
  · subst h; rw [if_pos rfl, Nat.beq_refl]; rfl
  · rw [if_neg h, show Nat.beq n m = false by rw [Bool.eq_false_iff]; exact fun e => h (Nat.eq_of_beq_eq_true e)]; rfl
theorem PT.getK_node {α : Type} (l r : PT α) (v : Option α) (n : Nat) : (PT.node l v r).getK n = if n = 0 then v else if n % 2 = 1 then l.getK (n / 2) else r.getK (n / 2 - 1) := by
  rw [← ifBeq, ← ifBeq]; rfl
theorem PT.oneK_succ {α : Type} (v : Option α) (f n : Nat) : PT.oneK v (f + 1) n = if n = 0 then .node .nil v .nil else if n % 2 = 1 then .node (PT.oneK v f (n / 2)) none .nil else .node .nil none (PT.oneK v f (n / 2 - 1)) := by
  rw [← ifBeq, ← ifBeq]; rfl
theorem PT.setK_node {α : Type} (v : Option α) (l r : PT α) (u : Option α) (n : Nat) : PT.setK v (.node l u r) n = if n = 0 then .node l v r else if n % 2 = 1 then .node (PT.setK v l (n / 2)) u r else .node l u (PT.setK v r (n / 2 - 1)) := by
  rw [← ifBeq, ← ifBeq]; rfl

theorem PT.getK_oneK {α : Type} {v : Option α} {x : α} : ∀ (f n m : Nat), (PT.oneK v f n).getK m = some x → m = n ∧ v = some x
  | 0, n, m, h => by cases h
  | f + 1, n, m, h => by
    rw [PT.oneK_succ] at h
    by_cases h0 : n = 0
    · rw [if_pos h0, PT.getK_node] at h
      by_cases m0 : m = 0
      · rw [if_pos m0] at h; exact ⟨by omega, h⟩
      · rw [if_neg m0] at h; split at h <;> cases h
    · rw [if_neg h0] at h
      by_cases h1 : n % 2 = 1
      · rw [if_pos h1, PT.getK_node] at h
        by_cases m0 : m = 0
        · rw [if_pos m0] at h; cases h
        · rw [if_neg m0] at h
          by_cases m1 : m % 2 = 1
          · rw [if_pos m1] at h
            have := PT.getK_oneK f _ _ h
            exact ⟨by omega, this.2⟩
          · rw [if_neg m1] at h; cases h
      · rw [if_neg h1, PT.getK_node] at h
        by_cases m0 : m = 0
        · rw [if_pos m0] at h; cases h
        · rw [if_neg m0] at h
          by_cases m1 : m % 2 = 1
          · rw [if_pos m1] at h; cases h
          · rw [if_neg m1] at h
            have := PT.getK_oneK f _ _ h
            exact ⟨by omega, this.2⟩

theorem PT.getK_setK {α : Type} {v : Option α} {x : α} : ∀ (t : PT α) (n m : Nat), (PT.setK v t n).getK m = some x → (m = n ∧ v = some x) ∨ (m ≠ n ∧ t.getK m = some x)
  | .nil, n, m, h => .inl (PT.getK_oneK 64 n m h)
  | .node l u r, n, m, h => by
    rw [PT.setK_node] at h
    rw [PT.getK_node]
    by_cases h0 : n = 0
    · rw [if_pos h0, PT.getK_node] at h
      by_cases m0 : m = 0
      · rw [if_pos m0] at h; exact .inl ⟨by omega, h⟩
      · rw [if_neg m0] at h; rw [if_neg m0]; exact .inr ⟨by omega, h⟩
    · rw [if_neg h0] at h
      by_cases h1 : n % 2 = 1
      · rw [if_pos h1, PT.getK_node] at h
        by_cases m0 : m = 0
        · rw [if_pos m0] at h ⊢; exact .inr ⟨by omega, h⟩
        · rw [if_neg m0] at h ⊢
          by_cases m1 : m % 2 = 1
          · rw [if_pos m1] at h ⊢
            rcases PT.getK_setK l _ _ h with ⟨e, hv⟩ | ⟨e, hv⟩
            · exact .inl ⟨by omega, hv⟩
            · exact .inr ⟨fun he => e (by rw [he]), hv⟩
          · rw [if_neg m1] at h ⊢; exact .inr ⟨fun he => m1 (he ▸ h1), h⟩
      · rw [if_neg h1, PT.getK_node] at h
        by_cases m0 : m = 0
        · rw [if_pos m0] at h ⊢; exact .inr ⟨by omega, h⟩
        · rw [if_neg m0] at h ⊢
          by_cases m1 : m % 2 = 1
          · rw [if_pos m1] at h ⊢; exact .inr ⟨fun he => h1 (he ▸ m1), h⟩
          · rw [if_neg m1] at h ⊢
            rcases PT.getK_setK r _ _ h with ⟨e, hv⟩ | ⟨e, hv⟩
            · exact .inl ⟨by omega, hv⟩
            · exact .inr ⟨fun he => e (by rw [he]), hv⟩
end Go.Proofs.YtpochibfjpanhaaGreat.Exe
