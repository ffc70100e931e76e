/- A part of the machine that reckons a closed run, and of the proof that what it says the given program does. No conditions. -/
import Derived.Test.YtpochibfjpanhaaGreatXt
set_option linter.unusedVariables false
set_option linter.unusedSimpArgs false
namespace Go.Proofs.YtpochibfjpanhaaGreat.Exe
open Go

/-! ### What goes on behind an operation may as well stand behind its answer -/
def Nt (m : K → R) : Prop := ∀ f : AV × Option AS → R, onSome (m fun v S => some (v, some S)) f = m fun v S => f (v, some S)
theorem nt_none : Nt fun _ => none := fun _ => rfl
theorem nt_ret (v : AV) (S : AS) : Nt fun k => k v S := fun _ => rfl
theorem nt_some {A : Type} {o : Option A} {m : A → K → R} (h : ∀ a, Nt (m a)) : Nt fun k => onSome o fun a => m a k := fun f => by
  cases o with
  | none => rfl
  | some a => exact h a f
theorem nt_if {c : Bool} {x y : K → R} (hx : Nt x) (hy : Nt y) : Nt fun k => ifB c (x k) (y k) := fun f => by
  cases c with
  | true => exact hx f
  | false => exact hy f
theorem nt_force {n : Nat} {m : Nat → K → R} (h : ∀ a, Nt (m a)) : Nt fun k => forceN n fun a => m a k := fun f => by
  show onSome (forceN n _) f = forceN n _
  rw [forceN_eq, forceN_eq]
  exact h n f
theorem nt_bool {v : AV} {m : Bool → K → R} (h : ∀ a, Nt (m a)) : Nt fun k => onBool v fun a => m a k := fun f => by cases v <;> first | rfl | exact h _ f
theorem nt_int {v : AV} {m : IntKind → Int → K → R} (h : ∀ a b, Nt (m a b)) : Nt fun k => onInt v fun a b => m a b k := fun f => by cases v <;> first | rfl | exact h _ _ f
theorem nt_natI {n : Int} {m : Nat → K → R} (h : ∀ a, Nt (m a)) : Nt fun k => onNatI n fun a => m a k := fun f => by cases n <;> first | rfl | exact h _ f
theorem nt_nat {v : AV} {m : Nat → K → R} (h : ∀ a, Nt (m a)) : Nt fun k => onNat v fun a => m a k := nt_int fun _ _ => nt_natI h
theorem nt_str {v : AV} {m : ByteArray → K → R} (h : ∀ a, Nt (m a)) : Nt fun k => onStr v fun a => m a k := fun f => by cases v <;> first | rfl | exact h _ f
theorem nt_ptr {v : AV} {m : Nat → Nat → K → R} (h : ∀ a b, Nt (m a b)) : Nt fun k => onPtr v fun a b => m a b k := fun f => by cases v <;> first | rfl | exact h _ _ f
theorem nt_sl {v : AV} {m : Nat → Nat → Nat → Nat → Bool → K → R} (h : ∀ a b c d e, Nt (m a b c d e)) : Nt fun k => onSl v fun a b c d e => m a b c d e k := fun f => by cases v <;> first | rfl | exact h _ _ _ _ _ f
theorem nt_map {v : AV} {m : Nat → K → R} (h : ∀ a, Nt (m a)) : Nt fun k => onMap v fun a => m a k := fun f => by cases v <;> first | rfl | exact h _ f
theorem nt_agg {v : AV} {m : List AV → K → R} (h : ∀ a, Nt (m a)) : Nt fun k => onAgg v fun a => m a k := fun f => by cases v <;> first | rfl | exact h _ f
theorem nt_tup {v : AV} {m : List AV → K → R} (h : ∀ a, Nt (m a)) : Nt fun k => onTup v fun a => m a k := fun f => by cases v <;> first | rfl | exact h _ f
theorem nt_new {S : AS} {o : AObj} {m : Nat → AS → K → R} (h : ∀ a b, Nt (m a b)) : Nt fun k => newK S o fun a b => m a b k := nt_force fun _ => h _ _
theorem nt_cells {S : AS} {b : Nat} {m : TypeId → Nat → List AV → K → R} (h : ∀ a b c, Nt (m a b c)) : Nt fun k => onCells S b fun x y z => m x y z k := nt_some fun o => fun f => by cases o <;> first | rfl | exact h _ _ _ f
theorem nt_mapO {S : AS} {b : Nat} {m : List (AV × AV × Nat) → Nat → K → R} (h : ∀ a b, Nt (m a b)) : Nt fun k => onMapO S b fun x y => m x y k := nt_some fun o => fun f => by cases o <;> first | rfl | exact h _ _ f
theorem nt_retO (o : Option AV) (S : AS) : Nt fun k => retO o S k := nt_some fun v => nt_ret v S
theorem nt_opt {A : Type} {o : Option A} {x : K → R} {m : A → K → R} (hx : Nt x) (h : ∀ a, Nt (m a)) : Nt fun k => Option.rec (motive := fun _ => R) (x k) (fun a => m a k) o := fun f => by cases o <;> first | exact hx f | exact h _ f
theorem nt_bound {y : Nat} {v : AV} {m : Nat → K → R} (h : ∀ a, Nt (m a)) : Nt fun k => boundK y v fun a => m a k := nt_nat fun _ => nt_if (h _) nt_none
theorem nt_optB {o : Option AV} {d y : Nat} {m : Nat → K → R} (h : ∀ a, Nt (m a)) : Nt fun k => optB o d y fun a => m a k := nt_opt (h d) fun _ => nt_bound h
theorem nt_bounds {len cap : Nat} {lo hi mx : Option AV} {m : Nat → Nat → Nat → K → R} (h : ∀ a b c, Nt (m a b c)) : Nt fun k => boundsK len cap lo hi mx fun a b c => m a b c k :=
  nt_opt (nt_optB fun _ => nt_optB fun _ => h _ _ _) fun _ => nt_bound fun _ => nt_opt nt_none fun _ => nt_bound fun _ => nt_optB fun _ => h _ _ _
theorem nt_cut (b o esz l h m : Nat) (op : Bool) (S : AS) : Nt fun k => cutK b o esz l h m op S k := nt_force fun _ => nt_force fun _ => nt_force fun _ => nt_ret _ _
theorem nt_row {v : AV} {m : List AV → K → R} (h : ∀ a, Nt (m a)) : Nt fun k => rowK v fun a => m a k := nt_if (h _) (nt_agg h)
theorem nt_more {esz : Nat} {x : AV} {S : AS} {m : Nat → List AV → K → R} (h : ∀ a b, Nt (m a b)) : Nt fun k => moreK esz x S fun a b => m a b k := nt_if (h _ _) (nt_sl fun _ _ _ _ _ => nt_cells fun _ _ _ => nt_some fun _ => h _ _)
theorem nt_look (ok : Bool) (f : Option AV) (z : AV) (S : AS) : Nt fun k => lookK ok f z S k := nt_opt (nt_ret _ _) fun _ => nt_ret _ _
theorem nt_keyOk {s : Nat} {v : AV} {x : K → R} (h : Nt x) : Nt fun k => keyOk s v (x k) := nt_if (nt_agg fun _ => nt_if h nt_none) h
theorem nt_len (n : Nat) (S : AS) : Nt fun k => lenK n S k := nt_force fun _ => nt_ret _ _
theorem nt_mm (mx : Bool) (kd : IntKind) (S : AS) : ∀ (l : List AV) (a : Int), Nt fun k => mm mx kd l a none fun n => k (.int kd n) S
  | [], a => nt_ret _ _
  | v :: l, a => nt_int fun _ b => nt_if (nt_if (nt_mm mx kd S l b) (nt_mm mx kd S l a)) (nt_if (nt_mm mx kd S l b) (nt_mm mx kd S l a))
theorem nt_drop {l : List UInt8} {n : Nat} {m : List UInt8 → K → R} (h : ∀ a, Nt (m a)) : Nt fun k => dropU l n fun r => m r k := fun f => by
  show onSome (dropU l n _) f = dropU l n _
  rw [dropU_eq, dropU_eq]
  exact h _ f
theorem nt_take {l : List UInt8} {n : Nat} {m : List UInt8 → K → R} (h : ∀ a, Nt (m a)) : Nt fun k => takeU l n fun r => m r k := fun f => by
  show onSome (takeU l n _) f = takeU l n _
  rw [takeU_eq, takeU_eq]
  exact h _ f
theorem nt_unpack {l n : Nat} {m : List UInt8 → K → R} (h : ∀ a, Nt (m a)) : Nt fun k => unpackC l n fun r => m r k := fun f => by
  show onSome (unpackC l n _) f = unpackC l n _
  rw [unpackC_eq, unpackC_eq]
  exact h _ f
theorem nt_bytes {v : AV} {m : Nat → Nat → K → R} (h : ∀ a b, Nt (m a b)) : Nt fun k => onBytes v fun a b => m a b k := fun f => by cases v <;> first | rfl | exact h _ _ f
theorem nt_runStr {cs : List AV} {m : ByteArray → K → R} (h : ∀ a, Nt (m a)) : Nt fun k => runStr cs fun s => m s k := fun f => by
  cases cs with
  | nil => exact h _ f
  | cons c r =>
    cases r with
    | cons _ _ => rfl
    | nil => exact nt_bytes (m := fun l n k => unpackC l n fun s => m ⟨⟨s⟩⟩ k) (fun _ _ => nt_unpack fun _ => h _) f
theorem nt_lenAny (x : AR) (t : T) (S : AS) : Nt fun k => kLenAny x t S k := fun f => by
  unfold kLenAny
  cases ev x t <;> first | rfl | exact nt_len _ _ f | exact nt_mapO (fun _ _ => nt_len _ _) f

theorem opK_nt (o : AO) (t : T) (S : AS) : Nt (opK o t S) := by
  cases o
  case mv => exact nt_ret _ _
  case pick => exact nt_bool fun _ => nt_if (nt_ret _ _) (nt_ret _ _)
  case alloc e esz z =>
    show Nt fun k => newK S (.cells e esz z) fun b S => k (.ptr b 0) S
    exact nt_new fun _ _ => nt_ret _ _
  case box => exact nt_row fun _ => nt_if (nt_new fun _ _ => nt_ret _ _) nt_none
  case build => exact nt_some fun _ => nt_ret _ _
  case buildSlice => exact nt_some fun _ => nt_new fun _ _ => nt_ret _ _
  case load => exact nt_ptr fun _ _ => nt_cells fun _ _ _ => nt_retO _ _
  case store => exact nt_ptr fun _ _ => nt_cells fun _ _ _ => nt_some fun _ => nt_ret _ _
  case nilCheck => exact nt_if (nt_ret _ _) nt_none
  case bin => exact nt_retO _ _
  case eqPlain => exact nt_agg fun _ => nt_agg fun _ => nt_if (nt_if (nt_some fun _ => nt_ret _ _) nt_none) nt_none
  case un => exact nt_retO _ _
  case toInt => exact nt_int fun _ _ => nt_retO _ _
  case toBytes => exact nt_str fun _ => nt_new fun _ _ => nt_ret _ _
  case toStr => exact nt_if (nt_ret _ _) (nt_sl fun _ _ _ _ _ => nt_cells fun _ _ _ => nt_some fun _ => nt_runStr fun _ => nt_ret _ _)
  case mark => exact nt_sl fun _ _ _ _ _ => nt_cells fun _ _ _ => nt_ret _ _
  case fieldAddr => exact nt_ptr fun _ _ => nt_force fun _ => nt_ret _ _
  case atArray => exact nt_ptr fun _ _ => nt_nat fun _ => nt_if (nt_force fun _ => nt_ret _ _) nt_none
  case atSlice => exact nt_sl fun _ _ _ _ _ => nt_nat fun _ => nt_if (nt_force fun _ => nt_ret _ _) nt_none
  case ixArray => exact nt_agg fun _ => nt_nat fun _ => nt_if (nt_retO _ _) nt_none
  case ixString => exact nt_str fun _ => nt_nat fun _ => nt_some fun _ => nt_ret _ _
  case field => exact nt_agg fun _ => nt_retO _ _
  case lenConst => exact nt_ret _ _
  case lenOf => exact nt_if (nt_lenAny _ _ _) nt_none
  case sliceSlice => exact nt_if (nt_bounds fun _ _ _ => nt_ret _ _) (nt_sl fun _ _ _ _ _ => nt_bounds fun _ _ _ => nt_if nt_none (nt_cut _ _ _ _ _ _ _ _))
  case sliceArray => exact nt_ptr fun _ _ => nt_bounds fun _ _ _ => nt_cut _ _ _ _ _ _ _ _
  case sliceString => exact nt_str fun _ => nt_bounds fun _ _ _ => nt_drop fun _ => nt_take fun _ => nt_ret _ _
  case s2ap => exact nt_sl fun _ _ _ _ _ => nt_if (nt_ret _ _) nt_none
  case extract => exact nt_tup fun _ => nt_retO _ _
  case call => exact nt_none
  case dyn => exact nt_none
  case defer => exact nt_none
  case invoke => exact nt_none
  case append => exact nt_more fun _ _ => nt_if (nt_if (nt_ret _ _) (nt_if (nt_new fun _ _ => nt_ret _ _) nt_none)) (nt_sl fun _ _ _ _ _ => nt_force fun _ => nt_cells fun _ _ _ => nt_if (nt_if (nt_ret _ _) (nt_some fun _ => nt_ret _ _)) (nt_if (nt_if (nt_if (nt_if (nt_if (nt_if (nt_new fun _ _ => nt_ret _ _) nt_none) nt_none) nt_none) nt_none) (nt_some fun _ => nt_new fun _ _ => nt_ret _ _)) nt_none))
  case minmax mx l =>
    show Nt fun k => kMinmax mx l t S k
    unfold kMinmax
    generalize evs l t = vs
    cases vs with
    | nil => exact nt_none
    | cons v r => exact nt_int fun kd a => nt_mm mx kd S r a
  case mapUpdate => exact nt_keyOk (nt_map fun _ => nt_mapO fun _ _ => nt_some fun _ => nt_opt (nt_ret _ _) fun _ => nt_ret _ _)
  case lookup => exact nt_if (nt_look _ _ _ _) (nt_map fun _ => nt_mapO fun _ _ => nt_some fun _ => nt_look _ _ _ _)
  case makeMap =>
    show Nt fun k => newK S (.map [] 0) fun b S => k (.map b) S
    exact nt_new fun _ _ => nt_ret _ _
  case makeSlice => exact nt_nat fun _ => nt_nat fun _ => nt_if (nt_if (nt_if (nt_new fun _ _ => nt_ret _ _) nt_none) nt_none) nt_none
  case makeFunc => exact nt_ret _ _
  case delete => exact nt_map fun _ => nt_mapO fun _ _ => nt_some fun _ => nt_ret _ _
  case clear => exact nt_if (nt_map fun _ => nt_mapO fun _ _ => nt_ret _ _) (nt_if (nt_ret _ _) (nt_sl fun _ _ _ _ _ => nt_if (nt_ret _ _) (nt_if (nt_cells fun _ _ _ => nt_some fun _ => nt_ret _ _) nt_none)))
  case copy => exact nt_if (nt_if (nt_ret _ _) (nt_if (nt_if (nt_ret _ _) nt_none) (nt_sl fun _ _ _ _ _ => nt_sl fun _ _ _ _ _ => nt_force fun _ => nt_if (nt_ret _ _) (nt_cells fun _ _ _ => nt_some fun _ => nt_cells fun _ _ _ => nt_some fun _ => nt_ret _ _)))) nt_none
  case makeIface => exact nt_ret _ _
  case eqNil => exact nt_if (nt_if (nt_some fun _ => nt_ret _ _) nt_none) nt_none
  case strOp => exact nt_str fun _ => nt_str fun _ => nt_retO _ _
  case eqBool => exact nt_bool fun _ => nt_bool fun _ => nt_ret _ _
  case mrange => exact nt_if (nt_new fun _ _ => nt_ret _ _) (nt_map fun _ => nt_mapO fun _ _ => nt_new fun _ _ => nt_ret _ _)
  case mnext => exact nt_none
  case mentry => exact nt_ptr fun _ _ => nt_if (nt_some fun o => fun f => by cases o <;> first | rfl | exact nt_opt nt_none (fun _ => nt_opt nt_none fun _ => nt_mapO fun _ _ => nt_if (nt_opt nt_none fun _ => nt_ret _ _) nt_none) f) nt_none
  case none => exact nt_none
theorem nowK_some (o : AO) (t : T) (S : AS) (f : AV × Option AS → R) : onSome (nowK o t S) f = opK o t S fun v S => f (v, some S) := opK_nt o t S f
end Go.Proofs.YtpochibfjpanhaaGreat.Exe
