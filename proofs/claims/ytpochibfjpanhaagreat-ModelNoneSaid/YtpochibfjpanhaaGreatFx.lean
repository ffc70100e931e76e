/- The given program's code as our machine reads it; the functions without a body that sort.Slice asks for, and that the machine does what they do. No conditions. -/
import Derived.KernelRfl
import Derived.Test.YtpochibfjpanhaaGreatChecked
import Derived.Test.YtpochibfjpanhaaGreatZo
namespace Go.Proofs.YtpochibfjpanhaaGreat.Exe
open Go Go.Extern Go.Extern.Rtype
noncomputable def FT : PT AF := tabOf Tryz.prog Tryz.prog.funcs.toList 0 .nil
noncomputable def cp : Nat → Code → AC := comp Tryz.prog true
noncomputable def exts : List (Nat × XF) := [(63, xValueOf Tryz.prog), (64, xSwapper Tryz.prog 75 76 [(82, 124, 83), (52, 84, 83)]), (65, xLen Tryz.prog), (83, xSwap Tryz.prog)]
/-- The guess: the first entry of each range. -/
noncomputable def gs : Opt := { first := true, ext := exts, memo := [], mg := [], guess := fun _ _ _ _ _ => none }
noncomputable def op0 : Opt := { first := false, ext := exts, memo := [], mg := [30, 9, 70, 22, 47, 72], guess := fun n => sndF (bothF FT cp gs n) }
theorem orders : Tryz.prog.follows .mixedOrders = true := by kernel_rfl
theorem names : NamesOk Tryz.prog := fun g fn h => by
  have hall : (Tryz.prog.funcs.toList.all fun f => !(f.name == "runtime.NumGoroutine")) = true := by kernel_rfl
  have hm : fn ∈ Tryz.prog.funcs.toList := List.mem_of_getElem? (by rw [Array.getElem?_toList]; exact h)
  have := List.all_eq_true.1 hall fn hm
  simpa using this
theorem table : FT = tabOf Tryz.prog Tryz.prog.funcs.toList 0 .nil := by unfold FT; rfl
theorem coded : cp = comp Tryz.prog true := by unfold cp; rfl
theorem sw_more {P : Program} {t e f ke k : Nat} (h1 : elemT P t = some e) (h2 : (P.info? e).map (fun ie => Lib.swapperK 2 ie ke) = some k) (h3 : ∀ w, (kind e).run P w = .ok ke w) (h4 : P.funcs.findIdx? (·.name == "internal/reflectlite" ++ ".Swapper$" ++ toString k) = some f) :
    ∃ i ie ke, P.info? t = some i ∧ i.desc = .slice e ∧ P.info? e = some ie ∧ (∀ w, (kind e).run P w = .ok ke w) ∧ P.funcs.findIdx? (·.name == "internal/reflectlite" ++ ".Swapper$" ++ toString (Lib.swapperK 2 ie ke)) = some f := by
  obtain ⟨i, hi, hd⟩ := elemT_some h1
  obtain ⟨ie, hie, hk⟩ := Option.map_eq_some_iff.1 h2
  exact ⟨i, ie, ke, hi, hd, hie, h3, by rw [hk]; exact h4⟩
theorem sw82 : ∃ i ie ke, Tryz.prog.info? 82 = some i ∧ i.desc = .slice 124 ∧ Tryz.prog.info? 124 = some ie ∧ (∀ w, (Extern.Rtype.kind 124).run Tryz.prog w = .ok ke w) ∧ Tryz.prog.funcs.findIdx? (·.name == "internal/reflectlite" ++ ".Swapper$" ++ toString (Lib.swapperK 2 ie ke)) = some 83 :=
  sw_more (ke := 25) (k := 9) (by kernel_rfl) (by kernel_rfl) (fun w => by kernel_rfl) (by kernel_rfl)
theorem sw52 : ∃ i ie ke, Tryz.prog.info? 52 = some i ∧ i.desc = .slice 84 ∧ Tryz.prog.info? 84 = some ie ∧ (∀ w, (Extern.Rtype.kind 84).run Tryz.prog w = .ok ke w) ∧ Tryz.prog.funcs.findIdx? (·.name == "internal/reflectlite" ++ ".Swapper$" ++ toString (Lib.swapperK 2 ie ke)) = some 83 :=
  sw_more (ke := 25) (k := 9) (by kernel_rfl) (by kernel_rfl) (fun w => by kernel_rfl) (by kernel_rfl)
theorem swOK : SwOK Tryz.prog 75 76 [(82, 124, 83), (52, 84, 83)] where
  none := by kernel_rfl
  one := by kernel_rfl
  more := fun t e f h => by
    simp only [List.mem_cons, List.not_mem_nil, or_false, Prod.mk.injEq] at h
    rcases h with h | h
    · obtain ⟨rfl, rfl, rfl⟩ := h; exact sw82
    · obtain ⟨rfl, rfl, rfl⟩ := h; exact sw52
theorem st63 : Stands Tryz.prog 63 fun args => ReflectliteValue.unpack (args.getD 0 (.tuple #[])) := fun args w => run_callFunc_extern Tryz.func63 (by kernel_rfl) (by kernel_rfl) (by kernel_rfl) (e := fun args => ReflectliteValue.unpack (args.getD 0 (.tuple #[]))) (by kernel_rfl) args w
theorem st64 : Stands Tryz.prog 64 (ReflectliteSwapper.swapper "internal/reflectlite" (ReflectliteValue.valueError "Swapper")) := fun args w => run_callFunc_extern Tryz.func64 (by kernel_rfl) (by kernel_rfl) (by kernel_rfl) (e := ReflectliteSwapper.swapper "internal/reflectlite" (ReflectliteValue.valueError "Swapper")) (by kernel_rfl) args w
theorem st65 : Stands Tryz.prog 65 (ReflectliteValue.method (ReflectliteValue.valueError "reflectlite.Value.Len" 0) ReflectliteValue.len) := fun args w => run_callFunc_extern Tryz.func65 (by kernel_rfl) (by kernel_rfl) (by kernel_rfl) (e := ReflectliteValue.method (ReflectliteValue.valueError "reflectlite.Value.Len" 0) ReflectliteValue.len) (by kernel_rfl) args w
theorem st83 : Stands Tryz.prog 83 (ReflectliteSwapper.swap false) := fun args w => run_callFunc_extern Tryz.func83 (by kernel_rfl) (by kernel_rfl) (by kernel_rfl) (e := ReflectliteSwapper.swap false) (by kernel_rfl) args w
theorem extsOK : ExtOK Tryz.prog exts := ext_cons (xValueOf_ok st63) (ext_cons (xSwapper_ok swOK st64) (ext_cons (xLen_ok st65) (ext_cons (xSwap_ok st83) ext_nil)))
theorem op0OK : OptOK Tryz.prog op0 := ⟨rfl, extsOK⟩
theorem memo0OK : MemoOK Tryz.prog op0.memo := memo_nil
set_option maxRecDepth 100000 in
set_option maxHeartbeats 4000000 in
theorem runAwake : sndF (bothF FT cp op0 100000) (.fn 4) [] start (pin (.bool true)) = some (.bool true, none) := by kernel_rfl
noncomputable def op : Opt := { first := false, ext := exts, memo := [(4, [], .bool true)], mg := op0.mg, guess := op0.guess }
theorem opOK : OptOK Tryz.prog op := ⟨rfl, extsOK⟩
theorem pureAwake : pureL [.bool true] = true := by kernel_rfl
theorem memoOK : MemoOK Tryz.prog op.memo := execF_memo (n := 100000) op0OK memo0OK orders names pureAwake (by rw [← table, ← coded]; exact runAwake)
end Go.Proofs.YtpochibfjpanhaaGreat.Exe
