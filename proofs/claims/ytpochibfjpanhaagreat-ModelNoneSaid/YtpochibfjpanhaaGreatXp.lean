/- A part of the machine that reckons a closed run, and of the proof that what it says the given program does. No conditions. -/
import Derived.Test.YtpochibfjpanhaaGreatXa0
set_option linter.unusedVariables false
set_option linter.unusedSimpArgs false
namespace Go.Proofs.YtpochibfjpanhaaGreat.Exe
open Go

/-! ### A table of temporaries: a trie of four, by paths -/
inductive D4 where
  | a | b | c | d
inductive TT (α : Type) where
  | nil
  | node (v : Option α) (a b c d : TT α)

def D4.no : D4 → Nat | .a => 0 | .b => 1 | .c => 2 | .d => 3
def D4.of (n : Nat) : D4 := match n with | 0 => .a | 1 => .b | 2 => .c | _ => .d
def pathF : Nat → Nat → List D4
  | 0, _ => []
  | f + 1, n => match n with | 0 => [] | m + 1 => D4.of (m % 4) :: pathF f (m / 4)
def pathOf (n : Nat) : List D4 := pathF (n + 1) n
def unpath : List D4 → Nat
  | [] => 0
  | x :: p => 4 * unpath p + x.no + 1
theorem D4.no_of (n : Nat) (h : n < 4) : (D4.of n).no = n := by
  match n, h with
  | 0, _ => rfl
  | 1, _ => rfl
  | 2, _ => rfl
  | 3, _ => rfl
theorem unpath_pathF : ∀ (f n : Nat), n < f → unpath (pathF f n) = n
  | f + 1, 0, _ => rfl
  | f + 1, m + 1, h => by
    show 4 * unpath (pathF f (m / 4)) + (D4.of (m % 4)).no + 1 = m + 1
    rw [unpath_pathF f (m / 4) (by omega), D4.no_of _ (Nat.mod_lt _ (by omega))]
    omega
theorem pathOf_inj {m n : Nat} (h : pathOf m = pathOf n) : m = n := by
  have h1 := unpath_pathF (m + 1) m (by omega)
  have h2 := unpath_pathF (n + 1) n (by omega)
  unfold pathOf at h
  rw [h] at h1
  omega

noncomputable def TT.val {α : Type} (t : TT α) : Option α := TT.rec none (fun v _ _ _ _ _ _ _ _ => v) t
noncomputable def TT.kid {α : Type} (t : TT α) (x : D4) : TT α := TT.rec .nil (fun _ a b c d _ _ _ _ => D4.rec a b c d x) t
noncomputable def TT.getP {α : Type} (p : List D4) : TT α → Option α :=
  List.rec (motive := fun _ => TT α → Option α) TT.val (fun x _ ih t => ih (t.kid x)) p
noncomputable def TT.setP {α : Type} (u : α) (p : List D4) : TT α → TT α :=
  List.rec (motive := fun _ => TT α → TT α) (fun t => TT.rec (.node (some u) .nil .nil .nil .nil) (fun _ a b c d _ _ _ _ => .node (some u) a b c d) t)
    (fun x _ ih t => TT.rec (D4.rec (.node none (ih .nil) .nil .nil .nil) (.node none .nil (ih .nil) .nil .nil) (.node none .nil .nil (ih .nil) .nil) (.node none .nil .nil .nil (ih .nil)) x)
      (fun v a b c d _ _ _ _ => D4.rec (.node v (ih a) b c d) (.node v a (ih b) c d) (.node v a b (ih c) d) (.node v a b c (ih d)) x) t) p

theorem TT.getP_cons {α : Type} (x : D4) (p : List D4) (t : TT α) : TT.getP (x :: p) t = TT.getP p (t.kid x) := rfl
theorem TT.val_setP_cons {α : Type} (u : α) (x : D4) (p : List D4) (t : TT α) : (TT.setP u (x :: p) t).val = t.val := by
  cases t <;> cases x <;> rfl
theorem TT.val_setP_nil {α : Type} (u : α) (t : TT α) : (TT.setP u [] t).val = some u := by
  cases t <;> rfl
theorem TT.kid_setP_nil {α : Type} (u : α) (x : D4) (t : TT α) : (TT.setP u [] t).kid x = t.kid x := by
  cases t <;> cases x <;> rfl
theorem TT.kid_setP_same {α : Type} (u : α) (x : D4) (p : List D4) (t : TT α) : (TT.setP u (x :: p) t).kid x = TT.setP u p (t.kid x) := by
  cases t <;> cases x <;> rfl
theorem TT.kid_setP_ne {α : Type} (u : α) {x y : D4} (h : y ≠ x) (p : List D4) (t : TT α) : (TT.setP u (x :: p) t).kid y = t.kid y := by
  cases t <;> cases x <;> cases y <;> first | rfl | exact absurd rfl h
theorem TT.getP_setP {α : Type} (u : α) : ∀ (p : List D4) (t : TT α), TT.getP p (TT.setP u p t) = some u
  | [], t => TT.val_setP_nil u t
  | x :: p, t => by rw [TT.getP_cons, TT.kid_setP_same]; exact TT.getP_setP u p _
theorem TT.getP_setP_ne {α : Type} (u : α) : ∀ (p q : List D4) (t : TT α), q ≠ p → TT.getP q (TT.setP u p t) = TT.getP q t
  | [], [], _, h => absurd rfl h
  | [], y :: q, t, _ => by rw [TT.getP_cons, TT.getP_cons, TT.kid_setP_nil]
  | x :: p, [], t, _ => TT.val_setP_cons u x p t
  | x :: p, y :: q, t, h => by
    rw [TT.getP_cons, TT.getP_cons]
    by_cases e : y = x
    · subst e
      rw [TT.kid_setP_same]
      exact TT.getP_setP_ne u p q _ (fun e => h (by rw [e]))
    · rw [TT.kid_setP_ne u e]

/-! ### The state -/
structure Q (A : Type) where
  a : A
  b : A
  c : A
  d : A
abbrev Q1 := Q AV
abbrev Q2 := Q Q1
abbrev Q3 := Q Q2
/-- The temporaries: 256 of them by four steps of four, the others by their paths; the calls that were put off, the last one first. -/
structure T where
  a : Q3
  b : Q3
  c : Q3
  d : Q3
  rest : TT AV
  df : List AV

/-- An object. 'loop st pend t ps asg body n': a range over a function: 0: ready, 1: busy, 2: done, 3: over; how a round left it (0: by return, i + 1: by exit i). 'dfr live': the calls that rounds put off: none. 'iter m since seen last': a range over a map. -/
inductive AObj where
  | cells (elem : TypeId) (esz : Nat) (segs : List AV)
  | map (es : List (AV × AV × Nat)) (clock : Nat)
  | loop (st : Nat) (pend : Option Nat) (t : T) (ps : List (List D4)) (asg body : Code) (n : Nat)
  | dfr (live : Bool)
  | iter (m : Option Nat) (since : Nat) (seen : List Nat) (last : Nat)

/-- The heap: 65536 blocks by four steps of sixteen, the others by a trie. -/
structure O16 (A : Type) where
  a0 : A
  a1 : A
  a2 : A
  a3 : A
  a4 : A
  a5 : A
  a6 : A
  a7 : A
  a8 : A
  a9 : A
  a10 : A
  a11 : A
  a12 : A
  a13 : A
  a14 : A
  a15 : A
structure HT (A : Type) where
  top : O16 (O16 (O16 (O16 (Option A))))
  rest : PT A

structure AS where
  heap : HT AObj
  next : Nat
end Go.Proofs.YtpochibfjpanhaaGreat.Exe
