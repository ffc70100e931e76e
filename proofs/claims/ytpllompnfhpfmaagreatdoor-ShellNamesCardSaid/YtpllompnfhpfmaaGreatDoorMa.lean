/- A part of the machine that reckons a closed run, and of the proof that what it says the given program does. No conditions. -/
import GoSem.Dispatch
import GoSem.Machine.Frame
set_option linter.unusedVariables false
set_option linter.unusedSimpArgs false
/-
  THE EXECUTOR: values, rows of cells, a trie, the state.
-/
namespace Go.Proofs.YtpllompnfhpfmaaGreatDoor.Exe
open Go

/-- A value, its addresses by numbers of its own. 'sl b o len cap op': 'op': the capacity is at least 'cap'. 'bytes len n': an array of bytes, the first one lowest. 'yl b': what the loop of block b hands to the function that it ranges over. 'any': whatever one cell may hold. 'raw r o': an address of the world's own, which is not looked at. 'lit v': just that value, which is not looked at. -/
inductive AV where
  | bool (b : Bool)
  | int (k : IntKind) (n : Int)
  | str (s : ByteArray)
  | pnil
  | ptr (b o : Nat)
  | snil
  | sl (b o len cap : Nat) (op : Bool)
  | mnil
  | map (b : Nat)
  | fnil
  | fn (f : FuncId) (first captured : List AV)
  | inil
  | ifc (t : TypeId) (v : AV)
  | agg (cs : List AV)
  | bytes (len n : Nat)
  | tup (vs : List AV)
  | junk
  | yl (b : Nat)
  | any
  | raw (r o : Nat)
  | lit (v : Value)
  deriving Inhabited

/-! ### A trie -/
inductive PT (α : Type) where
  | nil
  | node (l : PT α) (v : Option α) (r : PT α)
  deriving Inhabited

/-- Bytes, one behind the other. -/
def glue : AV → List AV → List AV
  | .bytes l m, .bytes k n :: cs => .bytes (l + k) (m + n * 2 ^ (8 * l)) :: cs
  | c, cs => c :: cs

/-- The cells of a value, as a row's. -/
def AV.row : AV → List AV
  | .agg cs => cs
  | v => [v]

end Go.Proofs.YtpllompnfhpfmaaGreatDoor.Exe
namespace Go.Proofs.YtpllompnfhpfmaaGreatDoor.Exe
open Go

/-! ### A table of temporaries: a trie of four, by paths -/
inductive D4 where
  | a | b | c | d
inductive TT (α : Type) where
  | nil
  | node (v : Option α) (a b c d : TT α)

def D4.no : D4 → Nat | .a => 0 | .b => 1 | .c => 2 | .d => 3
def D4.of (n : Nat) : D4 := match n with | 0 => .a | 1 => .b | 2 => .c | _ => .d
def pathF : Nat → Nat → List D4
  | 0, _ => []
  | f + 1, n => match n with | 0 => [] | m + 1 => D4.of (m % 4) :: pathF f (m / 4)
def pathOf (n : Nat) : List D4 := pathF (n + 1) n
def unpath : List D4 → Nat
  | [] => 0
  | x :: p => 4 * unpath p + x.no + 1
theorem D4.no_of (n : Nat) (h : n < 4) : (D4.of n).no = n := by
  match n, h with
  | 0, _ => rfl
  | 1, _ => rfl
  | 2, _ => rfl
  | 3, _ => rfl
theorem unpath_pathF : ∀ (f n : Nat), n < f → unpath (pathF f n) = n
  | f + 1, 0, _ => rfl
  | f + 1, m + 1, h => by
    show 4 * unpath (pathF f (m / 4)) + (D4.of (m % 4)).no + 1 = m + 1
    rw [unpath_pathF f (m / 4) (by omega), D4.no_of _ (Nat.mod_lt _ (by omega))]
    omega
theorem pathOf_inj {m n : Nat} (h : pathOf m = pathOf n) : m = n := by
  have h1 := unpath_pathF (m + 1) m (by omega)
  have h2 := unpath_pathF (n + 1) n (by omega)
  unfold pathOf at h
  rw [h] at h1
  omega

noncomputable def TT.val {α : Type} (t : TT α) : Option α := TT.rec none (fun v _ _ _ _ _ _ _ _ => v) t
noncomputable def TT.kid {α : Type} (t : TT α) (x : D4) : TT α := TT.rec .nil (fun _ a b c d _ _ _ _ => D4.rec a b c d x) t
noncomputable def TT.getP {α : Type} (p : List D4) : TT α → Option α :=
  List.rec (motive := fun _ => TT α → Option α) TT.val (fun x _ ih t => ih (t.kid x)) p
noncomputable def TT.setP {α : Type} (u : α) (p : List D4) : TT α → TT α :=
  List.rec (motive := fun _ => TT α → TT α) (fun t => TT.rec (.node (some u) .nil .nil .nil .nil) (fun _ a b c d _ _ _ _ => .node (some u) a b c d) t)
    (fun x _ ih t => TT.rec (D4.rec (.node none (ih .nil) .nil .nil .nil) (.node none .nil (ih .nil) .nil .nil) (.node none .nil .nil (ih .nil) .nil) (.node none .nil .nil .nil (ih .nil)) x)
      (fun v a b c d _ _ _ _ => D4.rec (.node v (ih a) b c d) (.node v a (ih b) c d) (.node v a b (ih c) d) (.node v a b c (ih d)) x) t) p

theorem TT.getP_cons {α : Type} (x : D4) (p : List D4) (t : TT α) : TT.getP (x :: p) t = TT.getP p (t.kid x) := rfl
theorem TT.val_setP_cons {α : Type} (u : α) (x : D4) (p : List D4) (t : TT α) : (TT.setP u (x :: p) t).val = t.val := by
  cases t <;> cases x <;> rfl
theorem TT.val_setP_nil {α : Type} (u : α) (t : TT α) : (TT.setP u [] t).val = some u := by
  cases t <;> rfl
theorem TT.kid_setP_nil {α : Type} (u : α) (x : D4) (t : TT α) : (TT.setP u [] t).kid x = t.kid x := by
  cases t <;> cases x <;> rfl
theorem TT.kid_setP_same {α : Type} (u : α) (x : D4) (p : List D4) (t : TT α) : (TT.setP u (x :: p) t).kid x = TT.setP u p (t.kid x) := by
  cases t <;> cases x <;> rfl
theorem TT.kid_setP_ne {α : Type} (u : α) {x y : D4} (h : y ≠ x) (p : List D4) (t : TT α) : (TT.setP u (x :: p) t).kid y = t.kid y := by
  cases t <;> cases x <;> cases y <;> first | rfl | exact absurd rfl h
theorem TT.getP_setP {α : Type} (u : α) : ∀ (p : List D4) (t : TT α), TT.getP p (TT.setP u p t) = some u
  | [], t => TT.val_setP_nil u t
  | x :: p, t => by rw [TT.getP_cons, TT.kid_setP_same]; exact TT.getP_setP u p _
theorem TT.getP_setP_ne {α : Type} (u : α) : ∀ (p q : List D4) (t : TT α), q ≠ p → TT.getP q (TT.setP u p t) = TT.getP q t
  | [], [], _, h => absurd rfl h
  | [], y :: q, t, _ => by rw [TT.getP_cons, TT.getP_cons, TT.kid_setP_nil]
  | x :: p, [], t, _ => TT.val_setP_cons u x p t
  | x :: p, y :: q, t, h => by
    rw [TT.getP_cons, TT.getP_cons]
    by_cases e : y = x
    · subst e
      rw [TT.kid_setP_same]
      exact TT.getP_setP_ne u p q _ (fun e => h (by rw [e]))
    · rw [TT.kid_setP_ne u e]

/-! ### The state -/
structure Q (A : Type) where
  a : A
  b : A
  c : A
  d : A
abbrev Q1 := Q AV
abbrev Q2 := Q Q1
abbrev Q3 := Q Q2
/-- The temporaries: 256 of them by four steps of four, the others by their paths; the calls that were put off, the last one first. -/
structure T where
  a : Q3
  b : Q3
  c : Q3
  d : Q3
  rest : TT AV
  df : List AV

/-- An object. 'loop st pend t ps asg body n': a range over a function: 0: ready, 1: busy, 2: done, 3: over; how a round left it (0: by return, i + 1: by exit i). 'dfr live': the calls that rounds put off: none. 'iter m since seen last': a range over a map. -/
inductive AObj where
  | cells (elem : TypeId) (esz : Nat) (segs : List AV)
  | map (es : List (AV × AV × Nat)) (clock : Nat)
  | loop (st : Nat) (pend : Option Nat) (t : T) (ps : List (List D4)) (asg body : Code) (n : Nat)
  | dfr (live : Bool)
  | iter (m : Option Nat) (since : Nat) (seen : List Nat) (last : Nat)

/-- The heap: 65536 blocks by four steps of sixteen, the others by a trie. -/
structure O16 (A : Type) where
  a0 : A
  a1 : A
  a2 : A
  a3 : A
  a4 : A
  a5 : A
  a6 : A
  a7 : A
  a8 : A
  a9 : A
  a10 : A
  a11 : A
  a12 : A
  a13 : A
  a14 : A
  a15 : A
structure HT (A : Type) where
  top : O16 (O16 (O16 (O16 (Option A))))
  rest : PT A

structure AS where
  heap : HT AObj
  next : Nat
end Go.Proofs.YtpllompnfhpfmaaGreatDoor.Exe
namespace Go.Proofs.YtpllompnfhpfmaaGreatDoor.Exe
open Go

/-! ### Operations, what hangs on types reckoned ahead -/
inductive AR where
  | tmp (p : List D4)
  | const (v : AV)
  deriving Inhabited

inductive AO where
  | mv (x : AR)
  | pick (c a b : AR)
  | alloc (elem : TypeId) (esz : Nat) (zero : List AV)
  | box (elem : TypeId) (esz : Nat) (x : AR)
  | build (zero : List AV) (parts : List (Nat × Nat × AR))
  | buildSlice (elem : TypeId) (esz : Nat) (len : Nat) (zero : List AV) (parts : List (Nat × Nat × AR))
  | load (agg : Bool) (n : Nat) (x : AR)
  | store (n : Nat) (a x : AR)
  | nilCheck (x : AR)
  | bin (op : BinOp) (x y : AR)
  | eqPlain (neg : Bool) (lay : List (Nat × Nat)) (x y : AR)
  | un (op : UnOp) (x : AR)
  | toInt (k : IntKind) (x : AR)
  | toBytes (elem : TypeId) (x : AR)
  | toStr (x : AR)
  | mark (x : AR)
  | fieldAddr (off : Nat) (x : AR)
  | atArray (len esz : Nat) (x i : AR)
  | atSlice (esz : Nat) (x i : AR)
  | ixArray (len esz : Nat) (agg : Bool) (x i : AR)
  | ixString (x i : AR)
  | field (agg : Bool) (off n : Nat) (x : AR)
  | lenConst (n : Nat) | lenOf (kind : Nat) (x : AR)
  | sliceSlice (esz : Nat) (x : AR) (lo hi mx : Option AR)
  | sliceArray (n esz : Nat) (x : AR) (lo hi mx : Option AR)
  | sliceString (x : AR) (lo hi : Option AR)
  | s2ap (n : Nat) (x : AR)
  | extract (x : AR) (i : Nat)
  | call (f : FuncId) (args : List AR)
  | dyn (f : AR) (args : List AR)
  | defer (f : AR) (args : List AR)
  | invoke (x : AR) (meth : TypeId → Option FuncId) (args : List AR)
  | append (elem : TypeId) (esz bytes : Nat) (s x : AR)
  | minmax (max : Bool) (args : List AR)
  | mapUpdate (kd : Nat) (m k v : AR)
  | lookup (kd : Nat) (zero : AV) (m k : AR) (ok : Bool)
  | makeMap
  | makeSlice (elem : TypeId) (esz bytes : Nat) (zero : List AV) (l c : AR)
  | makeFunc (f : FuncId) (first cap : List AR)
  | delete (kd : Nat) (m k : AR)
  | clear (esz : Nat) (zero : List AV) (x : AR)
  | copy (esz : Nat) (d s : AR)
  | makeIface (t : TypeId) (x : AR)
  | eqNil (kind : Nat) (neg : Bool) (x y : AR)
  | strOp (op : BinOp) (x y : AR)
  | eqBool (neg : Bool) (x y : AR)
  | mrange (x : AR)
  | mnext (x : AR)
  | mentry (x : AR)
  | tassert (ty : TypeId) (z : AV) (ok : Bool) (x : AR)
  | none
  deriving Inhabited

structure AOp where
  dst : Option (List D4)
  op : AO
  guard : Option (Option (List D4) × Bool)   -- the guarding operation's temporary; what it must hold
  deriving Inhabited

/-- A region's operations: 'op': no guard, one temporary, no call. In a region whose order is drawn: 'val': it yields a value and changes nothing; 'chk': it would yield the same value now. 'dfr': a call put off. -/
inductive AL where
  | nil
  | op (p : List D4) (o : AO) (r : AL)
  | gen (o : AOp) (r : AL)
  | val (o : AOp) (r : AL)
  | chk (o : AOp) (r : AL)
  | dfr (f : AR) (as : List AR) (o : AOp) (r : AL)
  deriving Inhabited

inductive AC where
  | skip
  | region (ops : AL)
  | seq (a b : AC)
  | cond (c : AR) (t e : AC)
  | block (id : Nat) (b : AC)
  | scope (b : AC)
  | loop (b : AC)
  | exit (id : Nat)
  | ret
  | bad
  | range (f : AR) (ps : List (List D4)) (asg body : Code) (n : Nat)
  deriving Inhabited

/-! ### From the program's own form -/
def u8no : Value → Option Nat
  | .int .u8 (.ofNat b) => some b
  | _ => none
/-- A value of one cell without an address. -/
def oneOf : Value → Option AV
  | .bool b => some (.bool b)
  | .int k n => some (.int k n)
  | .string s => some (.str s)
  | .pointer none => some .pnil
  | .slice none 0 0 => some .snil
  | .map none => some .mnil
  | .nilFunc => some .fnil
  | .nilIface => some .inil
  | _ => none
def packCells : List Value → Option (List AV)
  | [] => some []
  | v :: r => (packCells r).bind fun cs => match u8no v with
    | some b => bif Nat.ble b 255 then some (glue (.bytes 1 b) cs) else some (.int .u8 (.ofNat b) :: cs)
    | none => (oneOf v).map (· :: cs)
def noneOf {A : Type} (l : List A) : Bool := match l with | [] => true | _ => false

def ofValue : Value → Option AV
  | .agg cs => (packCells cs.toList).map AV.agg
  | .func (.func f) a b => bif noneOf a.toList && noneOf b.toList then some (.fn f [] []) else none
  | .tuple vs => bif noneOf vs.toList then some (.tup []) else none
  | v => oneOf v

def ofOperand : Operand → Option AR
  | .tmp t => some (.tmp (pathOf t))
  | .const v => (ofValue v).map AR.const
  | .func f => some (.const (.fn f [] []))
  | .global _ => none

def ofOperands : List Operand → Option (List AR)
  | [] => some []
  | x :: r => (ofOperand x).bind fun a => (ofOperands r).map (a :: ·)

def ofOpt : Option Operand → Option (Option AR)
  | none => some none
  | some x => (ofOperand x).map some

def negOf : BinOp → Option Bool | .eql => some false | .neq => some true | _ => none

section
variable (P : Program)

def zeroOf (t : TypeId) : Option (List AV) := ((P.info? t).bind (·.zero)).bind fun z => packCells z.cells.toList
def sizeT (t : TypeId) : Nat := ((P.info? t).map (·.size)).getD 0
def aggT (t : TypeId) : Bool := match P.underlying t with | some (.struct _) | some (.array _ _) => true | _ => false

def kindNo (k : IntKind) : Nat := match k with | .i8 => 0 | .i16 => 1 | .i32 => 2 | .i64 => 3 | .u8 => 4 | .u16 => 5 | .u32 => 6 | .u64 => 7
def timesL {A : Type} (n : Nat) (l : List A) : List A := match n with | 0 => [] | n + 1 => l ++ timesL n l
def spanL : List (Nat × Nat) → Nat
  | [] => 0
  | p :: r => p.2 + spanL r
/-- Of which kinds a value's cells are, where '==' is the sameness of the cells: (kind, how many). -/
def leafL : Nat → TypeId → Option (List (Nat × Nat))
  | 0, _ => none
  | d + 1, t => match P.underlying t with
    | some .bool => some [(8, 1)]
    | some (.int k) => some [(kindNo k, 1)]
    | some .string => some [(9, 1)]
    | some (.array n e) => (leafL d e).bind fun l => bif Nat.beq (sizeT P e) (spanL l) then (match l with
        | [(k, 1)] => some [(k, n)]
        | l => some (timesL n l)) else none
    | some (.struct fs) => bif P.stoodInHeld t then none else
        (fs.toList.foldr (fun f r => r.bind fun r => bif f.name == "_" then none else (leafL d f.type).bind fun l => bif Nat.beq (sizeT P f.type) (spanL l) then some ((f.offset, l) :: r) else none) (some [])).bind (seqL 0)
    | _ => none
  where
  /-- The parts stand one behind the other. -/
  seqL : Nat → List (Nat × List (Nat × Nat)) → Option (List (Nat × Nat))
    | _, [] => some []
    | o, p :: r => bif Nat.beq p.1 o then (seqL (o + spanL p.2) r).map (p.2 ++ ·) else none

/-- How far fields reach that are whole numbers all. -/
def intFields : List Field → Option Nat
  | [] => some 0
  | f :: r => (match P.underlying f.type with | some (.int _) => (intFields r).map (Nat.max (f.offset + 1)) | _ => none)
/-- Is a map's key a string? (1; 0: a whole number; else no map of ours.) -/
def strKey (k : TypeId) : Option Nat := match P.underlying k with | some .string => some 1 | some (.int _) => some 0 | _ => none
def keyOf (t : TypeId) : Option Nat := match P.underlying t with | some (.map k _) => strKey P k | _ => none
/-- The same; 2 + n: a struct of whole numbers in n cells: it is laid into an empty map alone. -/
def keyUp (t : TypeId) : Option Nat := match P.underlying t with | some (.map k _) => (match P.underlying k with | some (.struct fs) => (intFields P fs.toList).map (2 + ·) | _ => strKey P k) | _ => none

/-- The function of a method with a pointer's receiver, of a pointer's type. -/
def methFn (name : String) (t : TypeId) : Option FuncId :=
  (P.info? t).bind fun i => (i.methods.find? (·.name == name)).bind fun m => match m.path.toList, m.func, P.underlying t with | [], some (f, true), some (.pointer _) => some f | _, _, _ => none

/-- Has a type's zero value as many cells as the type? -/
def fullZero (t : TypeId) : Bool := match (P.info? t).bind (·.zero) with | some z => Nat.beq z.cells.size (sizeT P t) | none => false
def known (t : TypeId) : Bool := (P.underlying t).isSome
def placesOf : List Field → Option (List (Nat × Nat))
  | [] => some []
  | f :: r => (P.info? f.type).bind fun i => (placesOf r).map ((f.offset, i.size) :: ·)
def partsOf (place : Nat → Option (Nat × Nat)) : List (Nat × Operand) → Option (List (Nat × Nat × AR))
  | [] => some []
  | p :: r => (place p.1).bind fun q => (ofOperand p.2).bind fun x => (partsOf place r).map ((q.1, q.2, x) :: ·)

def compB (argTypes : Array TypeId) (b : Builtin) (a : List AR) : Option AO :=
  match b, a with
      | .len, [x] => (match (argTypes[0]?).bind P.underlying with
        | some (.array n _) => some (.lenConst n)
        | some (.pointer e) => (match P.underlying e with | some (.array n _) => some (.lenConst n) | _ => none)
        | some .string => some (.lenOf 0 x)
        | some (.slice _) => some (.lenOf 1 x)
        | some (.map _ _) => some (.lenOf 2 x)
        | _ => none)
      | .append, [s, x] => (match (argTypes[0]?).bind P.underlying, (argTypes[1]?).bind P.underlying with
        | some (.slice e), some (.slice _) => bif fullZero P e then some (.append e (sizeT P e) ((P.info? e).map (·.bytes) |>.getD 0) s x) else none
        | some (.slice e), some .string => bif fullZero P e then some (.append e (sizeT P e) ((P.info? e).map (·.bytes) |>.getD 0) s x) else none
        | _, _ => none)
      | .min, a => some (.minmax false a)
      | .max, a => some (.minmax true a)
      | .delete, [m, k] => ((argTypes[0]?).bind (keyOf P)).map fun s => .delete s m k
      | .clear, [x] => (match (argTypes[0]?).bind P.underlying with | some (.slice e) => bif fullZero P e then (zeroOf P e).map fun z => .clear (sizeT P e) z x else none | some (.map _ _) => some (.clear 0 [] x) | _ => none)
      | .copy, [d, s] => (match (argTypes[0]?).bind P.underlying with | some (.slice e) => bif known P e then some (.copy (sizeT P e) d s) else none | _ => none)
      | _, _ => none

def compBin (op : BinOp) (t : TypeId) (x y : AR) : Option AO :=
  match P.underlying t with
      | some (.int _) => some (.bin op x y)
      | some .string => some (.strOp op x y)
      | some .bool => (negOf op).map fun n => AO.eqBool n x y
      | some (.pointer _) => (negOf op).map fun n => AO.eqNil 1 n x y
      | some (.slice _) => (negOf op).map fun n => AO.eqNil 2 n x y
      | some (.map _ _) => (negOf op).map fun n => AO.eqNil 3 n x y
      | some (.func _ _ _) => (negOf op).map fun n => AO.eqNil 4 n x y
      | some (.interface _) => (negOf op).map fun n => AO.eqNil 5 n x y
      | some (.struct _) | some (.array _ _) => bif P.eqGuardType P.depth t then none else (leafL P 20 t).bind fun l => (negOf op).map fun n => AO.eqPlain n l x y
      | _ => none

def compConv (s d : TypeId) (x : AR) : Option AO :=
  match P.underlying s, P.underlying d with
      | some (.int _), some (.int k) => some (.toInt k x)
      | some .string, some (.slice e) => (match P.underlying e with | some (.int .u8) => some (.toBytes e x) | _ => none)
      | some (.slice e), some .string => (match P.underlying e with | some (.int .u8) => some (.toStr x) | _ => none)
      | some (.slice _), some (.slice e) => bif Nat.beq s d then (match P.underlying e with | some (.int .u8) => some (.mark x) | _ => none) else none
      | _, _ => none

def strSlice (x : AR) (lo hi mx : Option AR) : Option AO := match mx with | none => some (.sliceString x lo hi) | some _ => none
def compOp? (o : Oper) : Option AO :=
  match o.op with
  | .move x | .assign x => (ofOperand x).map AO.mv
  | .pick c a b => (ofOperand c).bind fun c => (ofOperand a).bind fun a => (ofOperand b).map fun b => AO.pick c a b
  | .alloc e => (zeroOf P e).map fun z => AO.alloc e (sizeT P e) z
  | .box e x => (ofOperand x).map fun x => AO.box e (sizeT P e) x
  | .build t ps => (zeroOf P t).bind fun z => (match P.underlying t with
      | some (.struct fs) => (placesOf P fs.toList).bind fun l => partsOf (fun i => l[i]?) ps.toList
      | some (.array _ e) => (P.info? e).bind fun ie => partsOf (fun i => some (i * ie.size, ie.size)) ps.toList
      | _ => none).map fun l => AO.build z l
  | .buildSlice t len ps => (match P.underlying t with
      | some (.slice e) => bif Nat.ble (len * sizeT P e) 16777216 && fullZero P e then (zeroOf P e).bind fun z => (partsOf (fun i => some (i * sizeT P e, sizeT P e)) ps.toList).map fun l => AO.buildSlice e (sizeT P e) len z l else none
      | _ => none)
  | .load t x => bif known P t then (ofOperand x).map fun x => AO.load (aggT P t) (sizeT P t) x else none
  | .store t a x => bif known P t then (ofOperand a).bind fun a => (ofOperand x).map fun x => AO.store (sizeT P t) a x else none
  | .nilCheck x => (ofOperand x).map AO.nilCheck
  | .binOp op t x y _ => (ofOperand x).bind fun x => (ofOperand y).bind fun y => compBin P op t x y
  | .unOp op _ x => (ofOperand x).map fun x => AO.un op x
  | .convert s d x => (ofOperand x).bind (compConv P s d)
  | .sliceToArrayPointer t x => (match P.underlying t with | some (.array n _) => (ofOperand x).map fun x => AO.s2ap n x | _ => none)
  | .makeInterface t x => (match P.underlying t with | some (.interface _) => none | some _ => (ofOperand x).map fun x => AO.makeIface t x | none => none)
  | .typeAssert x _ ty ok => (match P.underlying ty with | some (.interface _) => none | some _ => ((P.info? ty).bind (·.zero)).bind fun z => (ofValue z).bind fun z => (ofOperand x).map fun x => AO.tassert ty z ok x | none => none)
  | .makeFunc (.func f) a b => (ofOperands a.toList).bind fun a => (ofOperands b.toList).map fun b => AO.makeFunc f a b
  | .makeMap _ none => some .makeMap
  | .makeMap t (some (.const (.int _ _))) => (match P.underlying t with | some (.map _ _) => some .makeMap | _ => none)
  | .makeSlice t l c => (match P.underlying t with
      | some (.slice e) => bif fullZero P e then (zeroOf P e).bind fun z => (ofOperand l).bind fun l => (ofOperand c).map fun c => AO.makeSlice e (sizeT P e) ((P.info? e).map (·.bytes) |>.getD 0) z l c else none
      | _ => none)
  | .slice t x lo hi mx => (ofOperand x).bind fun x => (ofOpt lo).bind fun lo => (ofOpt hi).bind fun hi => (ofOpt mx).bind fun mx => (match P.underlying t with
      | some (.array n e) => bif known P e then some (.sliceArray n (sizeT P e) x lo hi mx) else none
      | some (.slice e) => bif known P e then some (.sliceSlice (sizeT P e) x lo hi mx) else none
      | some .string => strSlice x lo hi mx
      | _ => none)
  | .fieldAddr t x i => (match P.underlying t with
      | some (.struct fs) => (fs[i]?).bind fun f => (bif Nat.beq (sizeT P f.type) 0 then none else (ofOperand x).map fun x => AO.fieldAddr f.offset x)
      | _ => none)
  | .field t x i => (match P.underlying t with
      | some (.struct fs) => (fs[i]?).bind fun f => bif known P f.type then (ofOperand x).map fun x => AO.field (aggT P f.type) f.offset (sizeT P f.type) x else none
      | _ => none)
  | .indexAddr t x i => (ofOperand x).bind fun x => (ofOperand i).bind fun i => (match P.underlying t with
      | some (.array n e) => bif known P e then some (.atArray n (sizeT P e) x i) else none
      | some (.slice e) => bif known P e then some (.atSlice (sizeT P e) x i) else none
      | _ => none)
  | .index t x i => (ofOperand x).bind fun x => (ofOperand i).bind fun i => (match P.underlying t with
      | some (.array n e) => bif known P e then some (.ixArray n (sizeT P e) (aggT P e) x i) else none
      | some .string => some (.ixString x i)
      | _ => none)
  | .lookup t x i ok => (match P.underlying t with
      | some (.map kt e) => (strKey P kt).bind fun s => ((P.info? e).bind (·.zero)).bind fun z => (ofValue z).bind fun z => (ofOperand x).bind fun x => (ofOperand i).map fun i => AO.lookup s z x i ok
      | _ => none)
  | .mapUpdate t m k v | .insert t m k v => (keyUp P t).bind fun s => (ofOperand m).bind fun m => (ofOperand k).bind fun k => (ofOperand v).map fun v => AO.mapUpdate s m k v
  | .extract x i => (ofOperand x).map fun x => AO.extract x i
  | .range t x => (match P.underlying t with | some (.map _ _) => (ofOperand x).map AO.mrange | _ => none)
  | .next x false => (ofOperand x).map AO.mnext
  | .entry x => (ofOperand x).map AO.mentry
  | .call { callee := .value (.func f), args, .. } => (ofOperands args.toList).map fun a => AO.call f a
  | .call { callee := .value f, args, .. } => (ofOperand f).bind fun f => (ofOperands args.toList).map fun a => AO.dyn f a
  | .call { callee := .invoke x name, args, .. } => (ofOperand x).bind fun x => (ofOperands args.toList).map fun a => .invoke x (methFn P name) a
  | .defer { callee := .value f, args, .. } => (ofOperand f).bind fun f => (ofOperands args.toList).map fun a => .defer f a
  | .call { callee := .builtin b, args, argTypes } => (ofOperands args.toList).bind (compB P argTypes b)
  | _ => none

def compOp (o : Oper) : AO := (compOp? P o).getD .none

def compOper (ops : Array Oper) (o : Oper) : AOp :=
  { dst := o.dst.map pathOf, op := compOp P o, guard := o.guard.map fun (j, b) => (((ops[j]?).bind (·.dst)).map pathOf, b) }

/-- Operations that yield a value and change nothing. -/
def isVal : AO → Bool
  | .mv _ | .pick .. | .build .. | .load .. | .nilCheck _ | .bin .. | .eqPlain .. | .un .. | .toInt .. | .fieldAddr .. | .atArray .. | .atSlice .. | .ixArray .. | .ixString .. | .field .. | .lenConst _ | .lenOf .. | .sliceSlice .. | .sliceArray .. | .sliceString .. | .toStr _ | .s2ap .. | .extract .. | .minmax .. | .lookup .. | .makeFunc .. | .makeIface .. | .eqNil .. | .strOp .. | .eqBool .. | .mentry _ | .tassert .. => true
  | _ => false
/-- Operations that make a new object and do nothing else. -/
def isMk : AO → Bool
  | .alloc .. | .box .. | .buildSlice .. | .makeMap | .makeSlice .. | .toBytes .. => true
  | _ => false
def isCall : AO → Bool
  | .call .. | .dyn .. | .defer .. | .invoke .. | .mnext _ => true
  | _ => false
def compL : List AOp → AL
  | [] => .nil
  | o :: r => match o.op with
    | .defer f as => .dfr f as o (compL r)
    | _ => match o.guard, o.dst with
      | none, some p => bif isCall o.op then .gen o (compL r) else .op p o.op (compL r)
      | _, _ => .gen o (compL r)

/-! ### Regions whose order is drawn -/
def optL {A : Type} : Option A → List A | none => [] | some a => [a]
/-- What an operation reads. -/
def AO.args : AO → List AR
  | .mv x | .box _ _ x | .load _ _ x | .nilCheck x | .un _ x | .toInt _ x | .toBytes _ x | .toStr x | .mark x | .fieldAddr _ x | .field _ _ _ x | .lenOf _ x | .s2ap _ x | .extract x _ | .clear _ _ x | .makeIface _ x | .mrange x | .mnext x | .mentry x | .tassert _ _ _ x => [x]
  | .pick c a b => [c, a, b]
  | .alloc .. | .lenConst _ | .makeMap | .none => []
  | .build _ ps | .buildSlice _ _ _ _ ps => ps.map fun p => p.2.2
  | .store _ a x | .bin _ a x | .eqPlain _ _ a x | .atArray _ _ a x | .atSlice _ a x | .ixArray _ _ _ a x | .ixString a x | .append _ _ _ a x | .lookup _ _ a x _ | .makeSlice _ _ _ _ a x | .delete _ a x | .copy _ a x | .eqNil _ _ a x | .strOp _ a x | .eqBool _ a x => [a, x]
  | .sliceSlice _ x lo hi mx | .sliceArray _ _ x lo hi mx => x :: (optL lo ++ optL hi ++ optL mx)
  | .sliceString x lo hi => x :: (optL lo ++ optL hi)
  | .call _ as | .minmax _ as => as
  | .dyn f as | .defer f as | .invoke f _ as => f :: as
  | .mapUpdate _ m k v => [m, k, v]
  | .makeFunc _ a b => a ++ b
def arT : AR → List Nat | .tmp p => [unpath p] | .const _ => []
def looksA (o : AOp) : List Nat := o.op.args.flatMap arT ++ (match o.guard with | some (some p, _) => [unpath p] | _ => [])
def bitN (i : Nat) : Nat := 2 ^ i
def subN (a b : Nat) : Bool := Nat.beq (a &&& b) a
/-- Of each operation, those that must have come up ahead of it. -/
def ancs : List Oper → List Nat → List Nat
  | [], acc => acc
  | o :: r, acc => ancs r (acc ++ [o.after.toList.foldl (fun m e => bif Region.binds .any e then m ||| bitN e.on ||| acc.getD e.on 0 else m) 0])
/-- Does it write what another one reads or writes, not behind it? -/
def clobbers (os : List Oper) (as : List AOp) (anc : List Nat) (j : Nat) : Bool := match (os[j]?).bind (·.dst) with
  | some d => (List.range as.length).any fun i => !(anc.getD i 0).testBit j && (((as[i]?).map fun a => (looksA a).contains d).getD false || (!Nat.beq i j && (match (os[i]?).bind (·.dst) with | some d' => Nat.beq d d' | none => false)))
  | none => false
def classA (os : List Oper) (as : List AOp) (anc : List Nat) (j : Nat) : Nat := match as[j]? with
  | some o => bif clobbers os as anc j then 2 else bif isVal o.op then 0 else bif isMk o.op then 1 else 2
  | none => 9
/-- An order: (what, which): 0: a value, 1: a new object, 2: anything else, 3: looked at once more. -/
def orderL (n : Nat) (anc cls : List Nat) : (fuel E F A V : Nat) → List (Nat × Nat)
  | 0, _, _, _, _ => []
  | f + 1, E, F, A, V =>
    match (List.range n).find? fun i => !E.testBit i && Nat.beq (cls.getD i 9) 1 && subN (anc.getD i 0) E with
    | some i => (1, i) :: orderL n anc cls f (E ||| bitN i) 0 A V
    | none => match (List.range n).find? fun i => !E.testBit i && Nat.beq (cls.getD i 9) 0 && subN (anc.getD i 0) E with
      | some i => (0, i) :: orderL n anc cls f (E ||| bitN i) (F ||| bitN i) A (V ||| bitN i)
      | none => ((List.range n).filter fun i => V.testBit i && !(F ||| A).testBit i).map (fun i => (3, i)) ++
        (match (List.range n).find? fun i => !E.testBit i && subN (anc.getD i 0) E with
          | some i => (2, i) :: orderL n anc cls f (E ||| bitN i) 0 (anc.getD i 0 ||| bitN i) V
          | none => [])
def compW (as : List AOp) : List (Nat × Nat) → AL
  | [] => .nil
  | (k, i) :: r => match as[i]?, k with
    | some o, 0 => .val o (compW as r)
    | some o, 3 => .chk o (compW as r)
    | some o, _ => .gen o (compW as r)
    | none, _ => .gen { dst := none, op := .none, guard := none } .nil
def isDefer : AO → Bool | .defer .. => true | _ => false
/-- Is it an order that stands for all? 'M': those of kind 2. -/
def chkL (as : List AOp) (anc : List Nat) (M : Nat) : List (Nat × Nat) → (E F A V : Nat) → Bool
  | [], E, F, A, V => Nat.beq E (2 ^ as.length - 1) && subN V (F ||| A)
  | (k, i) :: r, E, F, A, V => match as[i]? with
    | none => false
    | some o => match k with
      | 3 => V.testBit i && isVal o.op && chkL as anc M r E (F ||| bitN i) A V
      | k => !E.testBit i && subN (anc.getD i 0) E && (match k with
        | 0 => isVal o.op && !M.testBit i && chkL as anc M r (E ||| bitN i) (F ||| bitN i) A (V ||| bitN i)
        | 1 => isMk o.op && !M.testBit i && chkL as anc M r (E ||| bitN i) 0 A V
        | 2 => !isDefer o.op && M.testBit i && subN V (F ||| A) && (r.all fun p => Nat.beq p.1 3 || (anc.getD p.2 0).testBit i) && chkL as anc M r (E ||| bitN i) 0 (anc.getD i 0 ||| bitN i) V
        | _ => false)
/-- Who must have come up ahead of an operation: by its own edges. -/
def ancNow (anc : List Nat) (o : Oper) : Nat := o.after.toList.foldl (fun m e => bif Region.binds .any e then m ||| (bitN e.on ||| anc.getD e.on 0) else m) 0
def ancOk (ops : List Oper) (anc : List Nat) : Nat → Bool
  | 0 => true
  | i + 1 => (match ops[i]? with
    | some o => (o.after.toList.all fun e => !Region.binds .any e || Nat.blt e.on i) && subN (anc.getD i 0) (ancNow anc o)
    | none => true) && ancOk ops anc i
/-- Who writes what another one reads comes ahead of it, or is of kind 2 and comes behind it; of two that write one temporary the later one is of kind 2. -/
def clashOk (os : List Oper) (as : List AOp) (anc : List Nat) (M : Nat) : Bool :=
  (List.range as.length).all fun j => match (os[j]?).bind (·.dst) with
    | none => true
    | some d => (List.range as.length).all fun i =>
      (!((as[i]?).map fun a => (looksA a).contains d).getD false || (anc.getD i 0).testBit j || (M.testBit j && (Nat.beq i j || (anc.getD j 0).testBit i))) &&
      (Nat.beq i j || (match (os[i]?).bind (·.dst) with | some d' => !Nat.beq d d' || (M.testBit j && (anc.getD j 0).testBit i) || (M.testBit i && (anc.getD i 0).testBit j) | none => true))
def isSelect (o : Oper) : Bool := match o.op with | .select .. => true | _ => false
def kindsOf (L : List (Nat × Nat)) : Nat := L.foldl (fun m p => bif Nat.beq p.1 2 then m ||| bitN p.2 else m) 0
def compDrawn (ops : Array Oper) : AL :=
  let os := ops.toList
  let as := os.map (compOper P ops)
  let anc := ancs os []
  let L := orderL as.length anc ((List.range as.length).map (classA os as anc)) (2 * as.length + 1) 0 0 0 0
  let M := kindsOf L
  bif chkL as anc M L 0 0 0 0 && ancOk os anc as.length && clashOk os as anc M && !os.any isSelect then compW as L else .gen { dst := none, op := .none, guard := none } .nil
def dstsOk (n : Nat) (ops : Array Oper) : Bool := ops.toList.all fun o => match o.dst with | some d => Nat.blt d n | none => true

def noDefer (ops : Array Oper) : Bool := ops.toList.all fun o => match o.op with | .defer _ => false | _ => true
def tmpsOk (n : Nat) (ps : Array Tmp) : Bool := ps.toList.all fun d => Nat.blt d n
/-- 'rd': the code of a round. -/
def comp (rd : Bool) (n : Nat) : Code → AC
  | .skip | .label _ => .skip
  | .region _ ops d => bif dstsOk n ops then (bif rd && !noDefer ops then .bad else bif d then .region (compDrawn P ops) else .region (compL (ops.toList.map (compOper P ops)))) else .bad
  | .seq a b => .seq (comp rd n a) (comp rd n b)
  | .cond c a b => (match ofOperand c with | some c => .cond c (comp rd n a) (comp rd n b) | none => .bad)
  | .block id b => .block id (comp rd n b)
  | .scope b => comp rd n b |> .scope
  | .loop b => .loop (comp rd n b)
  | .exit id => .exit id
  | .ret => .ret
  | .rangeFunc f ps a b => bif rd then .bad else bif tmpsOk n ps then (match ofOperand f with | some f => .range f (ps.toList.map pathOf) a b n | none => .bad) else .bad
  | _ => .bad
end

/-- A function: its code, its results (a temporary, or a cell's address with the kind and the size). -/
structure AF where
  code : AC
  results : List (List D4 × Option (Bool × Nat))
  deriving Inhabited

def compFn (P : Program) (f : Func) : Option AF :=
  f.body.bind fun c => bif f.results.toList.all (fun r => match r with | .tmp _ => true | .cell _ t => known P t) then
    some { code := comp P false f.ntmps c, results := f.results.toList.map fun | .tmp t => (pathOf t, none) | .cell a t => (pathOf a, some (aggT P t, sizeT P t)) } else none

end Go.Proofs.YtpllompnfhpfmaaGreatDoor.Exe
namespace Go.Proofs.YtpllompnfhpfmaaGreatDoor.Exe
open Go

/-! ### What the kernel reckons with: recursors, their small cases closed -/
noncomputable def ifB {R : Type} (c : Bool) (t e : R) : R := Bool.rec e t c
theorem ifB_true {R : Type} (t e : R) : ifB true t e = t := rfl
theorem ifB_false {R : Type} (t e : R) : ifB false t e = e := rfl
noncomputable def onSome {A R : Type} (o : Option A) (k : A → Option R) : Option R := Option.rec none k o
theorem onSome_some {A R : Type} {o : Option A} {k : A → Option R} {r : R} (h : onSome o k = some r) : ∃ a, o = some a ∧ k a = some r := by
  cases o with
  | none => exact absurd h (by intro h; cases h)
  | some a => exact ⟨a, rfl, h⟩
theorem ifB_some {R : Type} {c : Bool} {t : Option R} {r : R} (h : ifB c t none = some r) : c = true ∧ t = some r := by
  cases c with
  | true => exact ⟨rfl, h⟩
  | false => exact absurd h (by intro h; cases h)
theorem ifB_or {R : Type} {c : Bool} {t e r : R} (h : ifB c t e = r) : (c = true ∧ t = r) ∨ (c = false ∧ e = r) := by
  cases c with
  | true => exact .inl ⟨rfl, h⟩
  | false => exact .inr ⟨rfl, h⟩
noncomputable def onNatI {R : Type} (n : Int) : (Nat → Option R) → Option R := Int.rec (motive := fun _ => (Nat → Option R) → Option R) (fun n k => k n) (fun _ _ => none) n
theorem onNatI_some {R : Type} {n : Int} {k : Nat → Option R} {r : R} (h : onNatI n k = some r) : ∃ m : Nat, n = m ∧ k m = some r := by
  cases n with
  | ofNat m => exact ⟨m, rfl, h⟩
  | negSucc m => exact absurd h (by intro h; cases h)
noncomputable def onBool {R : Type} (v : AV) : (Bool → Option R) → Option R :=
  AV.rec (motive_1 := fun _ => (Bool → Option R) → Option R) (motive_2 := fun _ => (Bool → Option R) → Option R)
    (fun x0 k => k x0) (fun _ _ _ => none) (fun _ _ => none) (fun _ => none) (fun _ _ _ => none) (fun _ => none) (fun _ _ _ _ _ _ => none) (fun _ => none) (fun _ _ => none) (fun _ => none) (fun _ _ _ _ _ _ => none) (fun _ => none) (fun _ _ _ _ => none) (fun _ _ _ => none) (fun _ _ _ => none) (fun _ _ _ => none) (fun _ => none) (fun _ _ => none) (fun _ => none) (fun _ _ _ => none) (fun _ _ => none) (fun _ => none) (fun _ _ _ _ _ => none) v
theorem onBool_some {R : Type} {v : AV} {k : Bool → Option R} {r : R} (h : onBool v k = some r) : ∃ x0, v = .bool x0 ∧ k x0 = some r := by
  cases v <;> first | exact ⟨_, rfl, h⟩ | exact absurd h (by intro h; cases h)
noncomputable def onInt {R : Type} (v : AV) : (IntKind → Int → Option R) → Option R :=
  AV.rec (motive_1 := fun _ => (IntKind → Int → Option R) → Option R) (motive_2 := fun _ => (IntKind → Int → Option R) → Option R)
    (fun _ _ => none) (fun x0 x1 k => k x0 x1) (fun _ _ => none) (fun _ => none) (fun _ _ _ => none) (fun _ => none) (fun _ _ _ _ _ _ => none) (fun _ => none) (fun _ _ => none) (fun _ => none) (fun _ _ _ _ _ _ => none) (fun _ => none) (fun _ _ _ _ => none) (fun _ _ _ => none) (fun _ _ _ => none) (fun _ _ _ => none) (fun _ => none) (fun _ _ => none) (fun _ => none) (fun _ _ _ => none) (fun _ _ => none) (fun _ => none) (fun _ _ _ _ _ => none) v
theorem onInt_some {R : Type} {v : AV} {k : IntKind → Int → Option R} {r : R} (h : onInt v k = some r) : ∃ x0 x1, v = .int x0 x1 ∧ k x0 x1 = some r := by
  cases v <;> first | exact ⟨_, _, rfl, h⟩ | exact absurd h (by intro h; cases h)
noncomputable def onStr {R : Type} (v : AV) : (ByteArray → Option R) → Option R :=
  AV.rec (motive_1 := fun _ => (ByteArray → Option R) → Option R) (motive_2 := fun _ => (ByteArray → Option R) → Option R)
    (fun _ _ => none) (fun _ _ _ => none) (fun x0 k => k x0) (fun _ => none) (fun _ _ _ => none) (fun _ => none) (fun _ _ _ _ _ _ => none) (fun _ => none) (fun _ _ => none) (fun _ => none) (fun _ _ _ _ _ _ => none) (fun _ => none) (fun _ _ _ _ => none) (fun _ _ _ => none) (fun _ _ _ => none) (fun _ _ _ => none) (fun _ => none) (fun _ _ => none) (fun _ => none) (fun _ _ _ => none) (fun _ _ => none) (fun _ => none) (fun _ _ _ _ _ => none) v
theorem onStr_some {R : Type} {v : AV} {k : ByteArray → Option R} {r : R} (h : onStr v k = some r) : ∃ x0, v = .str x0 ∧ k x0 = some r := by
  cases v <;> first | exact ⟨_, rfl, h⟩ | exact absurd h (by intro h; cases h)
noncomputable def onPtr {R : Type} (v : AV) : (Nat → Nat → Option R) → Option R :=
  AV.rec (motive_1 := fun _ => (Nat → Nat → Option R) → Option R) (motive_2 := fun _ => (Nat → Nat → Option R) → Option R)
    (fun _ _ => none) (fun _ _ _ => none) (fun _ _ => none) (fun _ => none) (fun x0 x1 k => k x0 x1) (fun _ => none) (fun _ _ _ _ _ _ => none) (fun _ => none) (fun _ _ => none) (fun _ => none) (fun _ _ _ _ _ _ => none) (fun _ => none) (fun _ _ _ _ => none) (fun _ _ _ => none) (fun _ _ _ => none) (fun _ _ _ => none) (fun _ => none) (fun _ _ => none) (fun _ => none) (fun _ _ _ => none) (fun _ _ => none) (fun _ => none) (fun _ _ _ _ _ => none) v
theorem onPtr_some {R : Type} {v : AV} {k : Nat → Nat → Option R} {r : R} (h : onPtr v k = some r) : ∃ x0 x1, v = .ptr x0 x1 ∧ k x0 x1 = some r := by
  cases v <;> first | exact ⟨_, _, rfl, h⟩ | exact absurd h (by intro h; cases h)
noncomputable def onSl {R : Type} (v : AV) : (Nat → Nat → Nat → Nat → Bool → Option R) → Option R :=
  AV.rec (motive_1 := fun _ => (Nat → Nat → Nat → Nat → Bool → Option R) → Option R) (motive_2 := fun _ => (Nat → Nat → Nat → Nat → Bool → Option R) → Option R)
    (fun _ _ => none) (fun _ _ _ => none) (fun _ _ => none) (fun _ => none) (fun _ _ _ => none) (fun _ => none) (fun x0 x1 x2 x3 x4 k => k x0 x1 x2 x3 x4) (fun _ => none) (fun _ _ => none) (fun _ => none) (fun _ _ _ _ _ _ => none) (fun _ => none) (fun _ _ _ _ => none) (fun _ _ _ => none) (fun _ _ _ => none) (fun _ _ _ => none) (fun _ => none) (fun _ _ => none) (fun _ => none) (fun _ _ _ => none) (fun _ _ => none) (fun _ => none) (fun _ _ _ _ _ => none) v
theorem onSl_some {R : Type} {v : AV} {k : Nat → Nat → Nat → Nat → Bool → Option R} {r : R} (h : onSl v k = some r) : ∃ x0 x1 x2 x3 x4, v = .sl x0 x1 x2 x3 x4 ∧ k x0 x1 x2 x3 x4 = some r := by
  cases v <;> first | exact ⟨_, _, _, _, _, rfl, h⟩ | exact absurd h (by intro h; cases h)
noncomputable def onMap {R : Type} (v : AV) : (Nat → Option R) → Option R :=
  AV.rec (motive_1 := fun _ => (Nat → Option R) → Option R) (motive_2 := fun _ => (Nat → Option R) → Option R)
    (fun _ _ => none) (fun _ _ _ => none) (fun _ _ => none) (fun _ => none) (fun _ _ _ => none) (fun _ => none) (fun _ _ _ _ _ _ => none) (fun _ => none) (fun x0 k => k x0) (fun _ => none) (fun _ _ _ _ _ _ => none) (fun _ => none) (fun _ _ _ _ => none) (fun _ _ _ => none) (fun _ _ _ => none) (fun _ _ _ => none) (fun _ => none) (fun _ _ => none) (fun _ => none) (fun _ _ _ => none) (fun _ _ => none) (fun _ => none) (fun _ _ _ _ _ => none) v
theorem onMap_some {R : Type} {v : AV} {k : Nat → Option R} {r : R} (h : onMap v k = some r) : ∃ x0, v = .map x0 ∧ k x0 = some r := by
  cases v <;> first | exact ⟨_, rfl, h⟩ | exact absurd h (by intro h; cases h)
noncomputable def onFn {R : Type} (v : AV) : (FuncId → List AV → List AV → Option R) → Option R :=
  AV.rec (motive_1 := fun _ => (FuncId → List AV → List AV → Option R) → Option R) (motive_2 := fun _ => (FuncId → List AV → List AV → Option R) → Option R)
    (fun _ _ => none) (fun _ _ _ => none) (fun _ _ => none) (fun _ => none) (fun _ _ _ => none) (fun _ => none) (fun _ _ _ _ _ _ => none) (fun _ => none) (fun _ _ => none) (fun _ => none) (fun x0 x1 x2 _ _ k => k x0 x1 x2) (fun _ => none) (fun _ _ _ _ => none) (fun _ _ _ => none) (fun _ _ _ => none) (fun _ _ _ => none) (fun _ => none) (fun _ _ => none) (fun _ => none) (fun _ _ _ => none) (fun _ _ => none) (fun _ => none) (fun _ _ _ _ _ => none) v
theorem onFn_some {R : Type} {v : AV} {k : FuncId → List AV → List AV → Option R} {r : R} (h : onFn v k = some r) : ∃ x0 x1 x2, v = .fn x0 x1 x2 ∧ k x0 x1 x2 = some r := by
  cases v <;> first | exact ⟨_, _, _, rfl, h⟩ | exact absurd h (by intro h; cases h)
noncomputable def onIfc {R : Type} (v : AV) : (TypeId → AV → Option R) → Option R :=
  AV.rec (motive_1 := fun _ => (TypeId → AV → Option R) → Option R) (motive_2 := fun _ => (TypeId → AV → Option R) → Option R)
    (fun _ _ => none) (fun _ _ _ => none) (fun _ _ => none) (fun _ => none) (fun _ _ _ => none) (fun _ => none) (fun _ _ _ _ _ _ => none) (fun _ => none) (fun _ _ => none) (fun _ => none) (fun _ _ _ _ _ _ => none) (fun _ => none) (fun x0 x1 _ k => k x0 x1) (fun _ _ _ => none) (fun _ _ _ => none) (fun _ _ _ => none) (fun _ => none) (fun _ _ => none) (fun _ => none) (fun _ _ _ => none) (fun _ _ => none) (fun _ => none) (fun _ _ _ _ _ => none) v
theorem onIfc_some {R : Type} {v : AV} {k : TypeId → AV → Option R} {r : R} (h : onIfc v k = some r) : ∃ x0 x1, v = .ifc x0 x1 ∧ k x0 x1 = some r := by
  cases v <;> first | exact ⟨_, _, rfl, h⟩ | exact absurd h (by intro h; cases h)
noncomputable def onAgg {R : Type} (v : AV) : (List AV → Option R) → Option R :=
  AV.rec (motive_1 := fun _ => (List AV → Option R) → Option R) (motive_2 := fun _ => (List AV → Option R) → Option R)
    (fun _ _ => none) (fun _ _ _ => none) (fun _ _ => none) (fun _ => none) (fun _ _ _ => none) (fun _ => none) (fun _ _ _ _ _ _ => none) (fun _ => none) (fun _ _ => none) (fun _ => none) (fun _ _ _ _ _ _ => none) (fun _ => none) (fun _ _ _ _ => none) (fun x0 _ k => k x0) (fun _ _ _ => none) (fun _ _ _ => none) (fun _ => none) (fun _ _ => none) (fun _ => none) (fun _ _ _ => none) (fun _ _ => none) (fun _ => none) (fun _ _ _ _ _ => none) v
theorem onAgg_some {R : Type} {v : AV} {k : List AV → Option R} {r : R} (h : onAgg v k = some r) : ∃ x0, v = .agg x0 ∧ k x0 = some r := by
  cases v <;> first | exact ⟨_, rfl, h⟩ | exact absurd h (by intro h; cases h)
noncomputable def onBytes {R : Type} (v : AV) : (Nat → Nat → Option R) → Option R :=
  AV.rec (motive_1 := fun _ => (Nat → Nat → Option R) → Option R) (motive_2 := fun _ => (Nat → Nat → Option R) → Option R)
    (fun _ _ => none) (fun _ _ _ => none) (fun _ _ => none) (fun _ => none) (fun _ _ _ => none) (fun _ => none) (fun _ _ _ _ _ _ => none) (fun _ => none) (fun _ _ => none) (fun _ => none) (fun _ _ _ _ _ _ => none) (fun _ => none) (fun _ _ _ _ => none) (fun _ _ _ => none) (fun x0 x1 k => k x0 x1) (fun _ _ _ => none) (fun _ => none) (fun _ _ => none) (fun _ => none) (fun _ _ _ => none) (fun _ _ => none) (fun _ => none) (fun _ _ _ _ _ => none) v
theorem onBytes_some {R : Type} {v : AV} {k : Nat → Nat → Option R} {r : R} (h : onBytes v k = some r) : ∃ x0 x1, v = .bytes x0 x1 ∧ k x0 x1 = some r := by
  cases v <;> first | exact ⟨_, _, rfl, h⟩ | exact absurd h (by intro h; cases h)
noncomputable def onTup {R : Type} (v : AV) : (List AV → Option R) → Option R :=
  AV.rec (motive_1 := fun _ => (List AV → Option R) → Option R) (motive_2 := fun _ => (List AV → Option R) → Option R)
    (fun _ _ => none) (fun _ _ _ => none) (fun _ _ => none) (fun _ => none) (fun _ _ _ => none) (fun _ => none) (fun _ _ _ _ _ _ => none) (fun _ => none) (fun _ _ => none) (fun _ => none) (fun _ _ _ _ _ _ => none) (fun _ => none) (fun _ _ _ _ => none) (fun _ _ _ => none) (fun _ _ _ => none) (fun x0 _ k => k x0) (fun _ => none) (fun _ _ => none) (fun _ => none) (fun _ _ _ => none) (fun _ _ => none) (fun _ => none) (fun _ _ _ _ _ => none) v
theorem onTup_some {R : Type} {v : AV} {k : List AV → Option R} {r : R} (h : onTup v k = some r) : ∃ x0, v = .tup x0 ∧ k x0 = some r := by
  cases v <;> first | exact ⟨_, rfl, h⟩ | exact absurd h (by intro h; cases h)
noncomputable def onYl {R : Type} (v : AV) : (Nat → Option R) → Option R :=
  AV.rec (motive_1 := fun _ => (Nat → Option R) → Option R) (motive_2 := fun _ => (Nat → Option R) → Option R)
    (fun _ _ => none) (fun _ _ _ => none) (fun _ _ => none) (fun _ => none) (fun _ _ _ => none) (fun _ => none) (fun _ _ _ _ _ _ => none) (fun _ => none) (fun _ _ => none) (fun _ => none) (fun _ _ _ _ _ _ => none) (fun _ => none) (fun _ _ _ _ => none) (fun _ _ _ => none) (fun _ _ _ => none) (fun _ _ _ => none) (fun _ => none) (fun x0 k => k x0) (fun _ => none) (fun _ _ _ => none) (fun _ _ => none) (fun _ => none) (fun _ _ _ _ _ => none) v
theorem onYl_some {R : Type} {v : AV} {k : Nat → Option R} {r : R} (h : onYl v k = some r) : ∃ x0, v = .yl x0 ∧ k x0 = some r := by
  cases v <;> first | exact ⟨_, rfl, h⟩ | exact absurd h (by intro h; cases h)
noncomputable def onRaw {R : Type} (v : AV) : (Nat → Nat → Option R) → Option R :=
  AV.rec (motive_1 := fun _ => (Nat → Nat → Option R) → Option R) (motive_2 := fun _ => (Nat → Nat → Option R) → Option R)
    (fun _ _ => none) (fun _ _ _ => none) (fun _ _ => none) (fun _ => none) (fun _ _ _ => none) (fun _ => none) (fun _ _ _ _ _ _ => none) (fun _ => none) (fun _ _ => none) (fun _ => none) (fun _ _ _ _ _ _ => none) (fun _ => none) (fun _ _ _ _ => none) (fun _ _ _ => none) (fun _ _ _ => none) (fun _ _ _ => none) (fun _ => none) (fun _ _ => none) (fun _ => none) (fun x0 x1 k => k x0 x1) (fun _ _ => none) (fun _ => none) (fun _ _ _ _ _ => none) v
theorem onRaw_some {R : Type} {v : AV} {k : Nat → Nat → Option R} {r : R} (h : onRaw v k = some r) : ∃ x0 x1, v = .raw x0 x1 ∧ k x0 x1 = some r := by
  cases v <;> first | exact ⟨_, _, rfl, h⟩ | exact absurd h (by intro h; cases h)
noncomputable def onLit {R : Type} (v : AV) : (Value → Option R) → Option R :=
  AV.rec (motive_1 := fun _ => (Value → Option R) → Option R) (motive_2 := fun _ => (Value → Option R) → Option R)
    (fun _ _ => none) (fun _ _ _ => none) (fun _ _ => none) (fun _ => none) (fun _ _ _ => none) (fun _ => none) (fun _ _ _ _ _ _ => none) (fun _ => none) (fun _ _ => none) (fun _ => none) (fun _ _ _ _ _ _ => none) (fun _ => none) (fun _ _ _ _ => none) (fun _ _ _ => none) (fun _ _ _ => none) (fun _ _ _ => none) (fun _ => none) (fun _ _ => none) (fun _ => none) (fun _ _ _ => none) (fun x0 k => k x0) (fun _ => none) (fun _ _ _ _ _ => none) v
theorem onLit_some {R : Type} {v : AV} {k : Value → Option R} {r : R} (h : onLit v k = some r) : ∃ x0, v = .lit x0 ∧ k x0 = some r := by
  cases v <;> first | exact ⟨_, rfl, h⟩ | exact absurd h (by intro h; cases h)
noncomputable def onNat {R : Type} (v : AV) (k : Nat → Option R) : Option R := onInt v fun _ n => onNatI n k
theorem onNat_some {R : Type} {v : AV} {k : Nat → Option R} {r : R} (h : onNat v k = some r) : ∃ (kd : IntKind) (m : Nat), v = .int kd m ∧ k m = some r := by
  obtain ⟨kd, n, rfl, h⟩ := onInt_some h
  obtain ⟨m, rfl, h⟩ := onNatI_some h
  exact ⟨kd, m, rfl, h⟩

/-- 'k n', 'n' reckoned first. -/
noncomputable def forceN {R : Type} (n : Nat) (k : Nat → R) : R := Nat.rec (motive := fun _ => R) (k 0) (fun m _ => k (Nat.succ m)) n
theorem forceN_eq {R : Type} (n : Nat) (k : Nat → R) : forceN n k = k n := by cases n <;> rfl
noncomputable def forceI {R : Type} (n : Int) (k : Int → R) : R := Int.rec (motive := fun _ => R) (fun a => forceN a fun a => k (.ofNat a)) (fun a => forceN a fun a => k (.negSucc a)) n
theorem forceI_eq {R : Type} (n : Int) (k : Int → R) : forceI n k = k n := by cases n <;> simp [forceI, forceN_eq]

/-! #### The trie -/
noncomputable def PT.getK {α : Type} (t : PT α) : Nat → Option α :=
  PT.rec (motive := fun _ => Nat → Option α) (fun _ => none)
    (fun _ v _ gl gr n => ifB (Nat.beq n 0) v (ifB (Nat.beq (Nat.mod n 2) 1) (gl (Nat.div n 2)) (gr (Nat.sub (Nat.div n 2) 1)))) t
noncomputable def PT.oneK {α : Type} (v : Option α) (f : Nat) : Nat → PT α :=
  Nat.rec (motive := fun _ => Nat → PT α) (fun _ => .nil)
    (fun _ s n => ifB (Nat.beq n 0) (.node .nil v .nil) (ifB (Nat.beq (Nat.mod n 2) 1) (.node (s (Nat.div n 2)) none .nil) (.node .nil none (s (Nat.sub (Nat.div n 2) 1))))) f
noncomputable def PT.setK {α : Type} (v : Option α) (t : PT α) : Nat → PT α :=
  PT.rec (motive := fun _ => Nat → PT α) (PT.oneK v 64)
    (fun l u r sl sr n => ifB (Nat.beq n 0) (.node l v r) (ifB (Nat.beq (Nat.mod n 2) 1) (.node (sl (Nat.div n 2)) u r) (.node l u (sr (Nat.sub (Nat.div n 2) 1))))) t

theorem ifBeq {R : Type} (n m : Nat) (t e : R) : ifB (Nat.beq n m) t e = if n = m then t else e := by
  by_cases h : n = m
  · subst h; rw [if_pos rfl, Nat.beq_refl]; rfl
  · rw [if_neg h, show Nat.beq n m = false by rw [Bool.eq_false_iff]; exact fun e => h (Nat.eq_of_beq_eq_true e)]; rfl
theorem PT.getK_node {α : Type} (l r : PT α) (v : Option α) (n : Nat) : (PT.node l v r).getK n = if n = 0 then v else if n % 2 = 1 then l.getK (n / 2) else r.getK (n / 2 - 1) := by
  rw [← ifBeq, ← ifBeq]; rfl
theorem PT.oneK_succ {α : Type} (v : Option α) (f n : Nat) : PT.oneK v (f + 1) n = if n = 0 then .node .nil v .nil else if n % 2 = 1 then .node (PT.oneK v f (n / 2)) none .nil else .node .nil none (PT.oneK v f (n / 2 - 1)) := by
  rw [← ifBeq, ← ifBeq]; rfl
theorem PT.setK_node {α : Type} (v : Option α) (l r : PT α) (u : Option α) (n : Nat) : PT.setK v (.node l u r) n = if n = 0 then .node l v r else if n % 2 = 1 then .node (PT.setK v l (n / 2)) u r else .node l u (PT.setK v r (n / 2 - 1)) := by
  rw [← ifBeq, ← ifBeq]; rfl

theorem PT.getK_oneK {α : Type} {v : Option α} {x : α} : ∀ (f n m : Nat), (PT.oneK v f n).getK m = some x → m = n ∧ v = some x
  | 0, n, m, h => by cases h
  | f + 1, n, m, h => by
    rw [PT.oneK_succ] at h
    by_cases h0 : n = 0
    · rw [if_pos h0, PT.getK_node] at h
      by_cases m0 : m = 0
      · rw [if_pos m0] at h; exact ⟨by omega, h⟩
      · rw [if_neg m0] at h; split at h <;> cases h
    · rw [if_neg h0] at h
      by_cases h1 : n % 2 = 1
      · rw [if_pos h1, PT.getK_node] at h
        by_cases m0 : m = 0
        · rw [if_pos m0] at h; cases h
        · rw [if_neg m0] at h
          by_cases m1 : m % 2 = 1
          · rw [if_pos m1] at h
            have := PT.getK_oneK f _ _ h
            exact ⟨by omega, this.2⟩
          · rw [if_neg m1] at h; cases h
      · rw [if_neg h1, PT.getK_node] at h
        by_cases m0 : m = 0
        · rw [if_pos m0] at h; cases h
        · rw [if_neg m0] at h
          by_cases m1 : m % 2 = 1
          · rw [if_pos m1] at h; cases h
          · rw [if_neg m1] at h
            have := PT.getK_oneK f _ _ h
            exact ⟨by omega, this.2⟩

theorem PT.getK_setK {α : Type} {v : Option α} {x : α} : ∀ (t : PT α) (n m : Nat), (PT.setK v t n).getK m = some x → (m = n ∧ v = some x) ∨ (m ≠ n ∧ t.getK m = some x)
  | .nil, n, m, h => .inl (PT.getK_oneK 64 n m h)
  | .node l u r, n, m, h => by
    rw [PT.setK_node] at h
    rw [PT.getK_node]
    by_cases h0 : n = 0
    · rw [if_pos h0, PT.getK_node] at h
      by_cases m0 : m = 0
      · rw [if_pos m0] at h; exact .inl ⟨by omega, h⟩
      · rw [if_neg m0] at h; rw [if_neg m0]; exact .inr ⟨by omega, h⟩
    · rw [if_neg h0] at h
      by_cases h1 : n % 2 = 1
      · rw [if_pos h1, PT.getK_node] at h
        by_cases m0 : m = 0
        · rw [if_pos m0] at h ⊢; exact .inr ⟨by omega, h⟩
        · rw [if_neg m0] at h ⊢
          by_cases m1 : m % 2 = 1
          · rw [if_pos m1] at h ⊢
            rcases PT.getK_setK l _ _ h with ⟨e, hv⟩ | ⟨e, hv⟩
            · exact .inl ⟨by omega, hv⟩
            · exact .inr ⟨fun he => e (by rw [he]), hv⟩
          · rw [if_neg m1] at h ⊢; exact .inr ⟨fun he => m1 (he ▸ h1), h⟩
      · rw [if_neg h1, PT.getK_node] at h
        by_cases m0 : m = 0
        · rw [if_pos m0] at h ⊢; exact .inr ⟨by omega, h⟩
        · rw [if_neg m0] at h ⊢
          by_cases m1 : m % 2 = 1
          · rw [if_pos m1] at h ⊢; exact .inr ⟨fun he => h1 (he ▸ m1), h⟩
          · rw [if_neg m1] at h ⊢
            rcases PT.getK_setK r _ _ h with ⟨e, hv⟩ | ⟨e, hv⟩
            · exact .inl ⟨by omega, hv⟩
            · exact .inr ⟨fun he => e (by rw [he]), hv⟩
end Go.Proofs.YtpllompnfhpfmaaGreatDoor.Exe
