/- The given program's code as our machine reads it, and a call whose answer is known: an inode's bytes that are noughts. No conditions. -/
import Derived.KernelRfl
import Derived.Test.YtnglnfdfjodnfaaGreatProg
import Derived.Test.YtnglnfdfjodnfaaGreatYq
namespace Go.Proofs.YtnglnfdfjodnfaaGreat.Exe
open Go
noncomputable def FT : PT AF := tabOf Tryz.prog Tryz.prog.funcs.toList 0 .nil
noncomputable def cp : Nat → Code → AC := comp Tryz.prog true
noncomputable def node0 : AV := .agg [.int .u16 0, .int .u16 0, .int .u32 0, .int .u32 0, .int .u32 0, .int .u32 0, .int .u32 0, .int .u32 0, .int .u32 0, .int .u32 0, .int .u32 0, .int .u32 0, .int .u32 0, .int .u32 0, .int .u32 0, .int .u32 0]
noncomputable def tab : Memo := [(82, [.agg [.bytes 64 0]], node0)]
set_option maxRecDepth 100000 in
theorem runMemo : sndF (bothF FT cp [] 1000) (.fn 82) [.agg [.bytes 64 0]] start (pin node0) = some (.bool true, start) := by kernel_rfl
theorem pureMemo : pureL (node0 :: [.agg [.bytes 64 0]]) = true := by kernel_rfl
theorem orders : Tryz.prog.follows .mixedOrders = true := by kernel_rfl
theorem names : NamesOk Tryz.prog := fun g fn h => by
  have hall : (Tryz.prog.funcs.toList.all fun f => !(f.name == "runtime.NumGoroutine")) = true := by kernel_rfl
  have hm : fn ∈ Tryz.prog.funcs.toList := List.mem_of_getElem? (by rw [Array.getElem?_toList]; exact h)
  have := List.all_eq_true.1 hall fn hm
  simpa using this
theorem table : FT = tabOf Tryz.prog Tryz.prog.funcs.toList 0 .nil := by unfold FT; rfl
theorem coded : cp = comp Tryz.prog true := by unfold cp; rfl
theorem knownTab : MemoOK Tryz.prog tab := execF_memo (n := 1000) memo_nil orders names pureMemo (by rw [← table, ← coded]; exact runMemo)
end Go.Proofs.YtnglnfdfjodnfaaGreat.Exe
