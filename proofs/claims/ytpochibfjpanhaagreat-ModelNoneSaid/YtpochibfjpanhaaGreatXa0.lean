/- A part of the machine that reckons a closed run, and of the proof that what it says the given program does. No conditions. -/
/-
  THE EXECUTOR: values, rows of cells, a trie, the state.
-/
import GoSem.Dispatch
import GoSem.Machine.Frame
set_option linter.unusedVariables false
set_option linter.unusedSimpArgs false
namespace Go.Proofs.YtpochibfjpanhaaGreat.Exe
open Go

/-- A value, its addresses by numbers of its own. 'sl b o len cap op': 'op': the capacity is at least 'cap'. 'bytes len n': an array of bytes, the first one lowest. 'yl b': what the loop of block b hands to the function that it ranges over. 'any': whatever one cell may hold. 'raw r o': an address of the world's own, which is not looked at. 'lit v': just that value, which is not looked at. -/
inductive AV where
  | bool (b : Bool)
  | int (k : IntKind) (n : Int)
  | str (s : ByteArray)
  | pnil
  | ptr (b o : Nat)
  | snil
  | sl (b o len cap : Nat) (op : Bool)
  | mnil
  | map (b : Nat)
  | fnil
  | fn (f : FuncId) (first captured : List AV)
  | inil
  | ifc (t : TypeId) (v : AV)
  | agg (cs : List AV)
  | bytes (len n : Nat)
  | tup (vs : List AV)
  | junk
  | yl (b : Nat)
  | any
  | raw (r o : Nat)
  | lit (v : Value)
  deriving Inhabited

/-! ### A trie -/
inductive PT (α : Type) where
  | nil
  | node (l : PT α) (v : Option α) (r : PT α)
  deriving Inhabited

/-- Bytes, one behind the other. -/
def glue : AV → List AV → List AV
  | .bytes l m, .bytes k n :: cs => .bytes (l + k) (m + n * 2 ^ (8 * l)) :: cs
  | c, cs => c :: cs

/-- The cells of a value, as a row's. -/
def AV.row : AV → List AV
  | .agg cs => cs
  | v => [v]

end Go.Proofs.YtpochibfjpanhaaGreat.Exe
