/- The given program's code as our machine reads it, and calls whose answers are known: those that decode an inode's bytes that are noughts. No conditions. -/
import Derived.KernelRfl
import Derived.Test.YtoldaakppnbhjaaGreatProg
import Derived.Test.YtoldaakppnbhjaaGreatYq
namespace Go.Proofs.YtoldaakppnbhjaaGreat.Exe
open Go
noncomputable def FT : PT AF := tabOf Tryz.prog Tryz.prog.funcs.toList 0 .nil
noncomputable def cp : Nat → Code → AC := comp Tryz.prog true
noncomputable def node0 : AV := .agg [.int .u16 0, .int .u16 0, .int .u32 0, .int .u32 0, .int .u32 0, .int .u32 0, .int .u32 0, .int .u32 0, .int .u32 0, .int .u32 0, .int .u32 0, .int .u32 0, .int .u32 0, .int .u32 0, .int .u32 0, .int .u32 0]
set_option maxRecDepth 100000 in
theorem runMemo0 : sndF (bothF FT cp [] 1000) (.fn 76) [.agg [.bytes 64 0]] start (pin node0) = some (.bool true, start) := by kernel_rfl
set_option maxRecDepth 100000 in
theorem runMemo1 : sndF (bothF FT cp [] 1000) (.fn 193) [.agg [.bytes 64 0]] start (pin node0) = some (.bool true, start) := by kernel_rfl
theorem pureMemo : pureL (node0 :: [.agg [.bytes 64 0]]) = true := by kernel_rfl
theorem orders : Tryz.prog.follows .mixedOrders = true := by kernel_rfl
theorem names : NamesOk Tryz.prog := fun g fn h => by
  have hall : (Tryz.prog.funcs.toList.all fun f => !(f.name == "runtime.NumGoroutine")) = true := by kernel_rfl
  have hm : fn ∈ Tryz.prog.funcs.toList := List.mem_of_getElem? (by rw [Array.getElem?_toList]; exact h)
  have := List.all_eq_true.1 hall fn hm
  simpa using this
theorem table : FT = tabOf Tryz.prog Tryz.prog.funcs.toList 0 .nil := by unfold FT; rfl
theorem coded : cp = comp Tryz.prog true := by unfold cp; rfl
theorem memo_cons {e : FuncId × List AV × AV} {l : Memo} (h : MemoOK Tryz.prog [e]) (g : MemoOK Tryz.prog l) : MemoOK Tryz.prog (e :: l) := fun a b c m => by
  rcases List.mem_cons.1 m with m | m
  · exact h a b c (by rw [m]; exact List.mem_cons_self)
  · exact g a b c m
noncomputable def tab0 : Memo := (76, [.agg [.bytes 64 0]], node0) :: []
theorem knownTab0 : MemoOK Tryz.prog tab0 := memo_cons (execF_memo (n := 1000) memo_nil orders names pureMemo (by rw [← table, ← coded]; exact runMemo0)) memo_nil
noncomputable def tab1 : Memo := (193, [.agg [.bytes 64 0]], node0) :: tab0
theorem knownTab1 : MemoOK Tryz.prog tab1 := memo_cons (execF_memo (n := 1000) memo_nil orders names pureMemo (by rw [← table, ← coded]; exact runMemo1)) knownTab0
end Go.Proofs.YtoldaakppnbhjaaGreat.Exe
