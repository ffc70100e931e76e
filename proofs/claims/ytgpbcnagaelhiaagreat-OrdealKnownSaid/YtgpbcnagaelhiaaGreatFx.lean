/- The given program's code as our machine reads it; the functions without a body that sort.Slice asks for, and that the machine does what they do. No conditions. -/
import Derived.KernelRfl
import Derived.Test.YtgpbcnagaelhiaaGreatChecked
import Derived.Test.YtgpbcnagaelhiaaGreatMi
import Derived.Test.YtgpbcnagaelhiaaGreatMj
namespace Go.Proofs.YtgpbcnagaelhiaaGreat.Exe
open Go Go.Extern Go.Extern.Rtype
noncomputable def FT : PT AF := tabOf Tryz.prog Tryz.prog.funcs.toList 0 .nil
noncomputable def cp : Nat → Code → AC := comp Tryz.prog true
noncomputable def exts : List (Nat × XF) := [(47, xValueOf Tryz.prog), (48, xSwapper Tryz.prog 70 71 [(78, 140, 78), (23, 100, 78)]), (49, xLen Tryz.prog), (78, xSwap Tryz.prog)]
/-- What a run is given: records r, known calls m. The guess takes the first entry of each range. -/
noncomputable def gsR (m : Memo) (r : List (Nat × RF)) : Opt := { first := true, ext := exts, memo := m, mg := [], guess := fun _ _ _ _ _ => none, recs := r }
noncomputable def opR (m : Memo) (r : List (Nat × RF)) : Opt := { first := false, ext := exts, memo := m, mg := [26, 13, 226, 114, 161, 227], guess := fun n => sndF (bothF FT cp (gsR m r) n), recs := r }
theorem orders : Tryz.prog.follows .mixedOrders = true := by kernel_rfl
theorem names : NamesOk Tryz.prog := fun g fn h => by
  have hall : (Tryz.prog.funcs.toList.all fun f => !(f.name == "runtime.NumGoroutine")) = true := by kernel_rfl
  have hm : fn ∈ Tryz.prog.funcs.toList := List.mem_of_getElem? (by rw [Array.getElem?_toList]; exact h)
  have := List.all_eq_true.1 hall fn hm
  simpa using this
theorem table : FT = tabOf Tryz.prog Tryz.prog.funcs.toList 0 .nil := by unfold FT; rfl
theorem coded : cp = comp Tryz.prog true := by unfold cp; rfl
theorem sw_more {P : Program} {t e f ke k : Nat} (h1 : elemT P t = some e) (h2 : (P.info? e).map (fun ie => Lib.swapperK 2 ie ke) = some k) (h3 : ∀ w, (kind e).run P w = .ok ke w) (h4 : P.funcs.findIdx? (·.name == "internal/reflectlite" ++ ".Swapper$" ++ toString k) = some f) :
    ∃ i ie ke, P.info? t = some i ∧ i.desc = .slice e ∧ P.info? e = some ie ∧ (∀ w, (kind e).run P w = .ok ke w) ∧ P.funcs.findIdx? (·.name == "internal/reflectlite" ++ ".Swapper$" ++ toString (Lib.swapperK 2 ie ke)) = some f := by
  obtain ⟨i, hi, hd⟩ := elemT_some h1
  obtain ⟨ie, hie, hk⟩ := Option.map_eq_some_iff.1 h2
  exact ⟨i, ie, ke, hi, hd, hie, h3, by rw [hk]; exact h4⟩
theorem sw78 : ∃ i ie ke, Tryz.prog.info? 78 = some i ∧ i.desc = .slice 140 ∧ Tryz.prog.info? 140 = some ie ∧ (∀ w, (Extern.Rtype.kind 140).run Tryz.prog w = .ok ke w) ∧ Tryz.prog.funcs.findIdx? (·.name == "internal/reflectlite" ++ ".Swapper$" ++ toString (Lib.swapperK 2 ie ke)) = some 78 :=
  sw_more (ke := 25) (k := 9) (by kernel_rfl) (by kernel_rfl) (fun w => by kernel_rfl) (by kernel_rfl)
theorem sw23 : ∃ i ie ke, Tryz.prog.info? 23 = some i ∧ i.desc = .slice 100 ∧ Tryz.prog.info? 100 = some ie ∧ (∀ w, (Extern.Rtype.kind 100).run Tryz.prog w = .ok ke w) ∧ Tryz.prog.funcs.findIdx? (·.name == "internal/reflectlite" ++ ".Swapper$" ++ toString (Lib.swapperK 2 ie ke)) = some 78 :=
  sw_more (ke := 25) (k := 9) (by kernel_rfl) (by kernel_rfl) (fun w => by kernel_rfl) (by kernel_rfl)
theorem swOK : SwOK Tryz.prog 70 71 [(78, 140, 78), (23, 100, 78)] where
  none := by kernel_rfl
  one := by kernel_rfl
  more := fun t e f h => by
    simp only [List.mem_cons, List.not_mem_nil, or_false, Prod.mk.injEq] at h
    rcases h with h | h
    · obtain ⟨rfl, rfl, rfl⟩ := h; exact sw78
    · obtain ⟨rfl, rfl, rfl⟩ := h; exact sw23
theorem st47 : Stands Tryz.prog 47 fun args => ReflectliteValue.unpack (args.getD 0 (.tuple #[])) := fun args w => run_callFunc_extern Tryz.func47 (by kernel_rfl) (by kernel_rfl) (by kernel_rfl) (e := fun args => ReflectliteValue.unpack (args.getD 0 (.tuple #[]))) (by kernel_rfl) args w
theorem st48 : Stands Tryz.prog 48 (ReflectliteSwapper.swapper "internal/reflectlite" (ReflectliteValue.valueError "Swapper")) := fun args w => run_callFunc_extern Tryz.func48 (by kernel_rfl) (by kernel_rfl) (by kernel_rfl) (e := ReflectliteSwapper.swapper "internal/reflectlite" (ReflectliteValue.valueError "Swapper")) (by kernel_rfl) args w
theorem st49 : Stands Tryz.prog 49 (ReflectliteValue.method (ReflectliteValue.valueError "reflectlite.Value.Len" 0) ReflectliteValue.len) := fun args w => run_callFunc_extern Tryz.func49 (by kernel_rfl) (by kernel_rfl) (by kernel_rfl) (e := ReflectliteValue.method (ReflectliteValue.valueError "reflectlite.Value.Len" 0) ReflectliteValue.len) (by kernel_rfl) args w
theorem st78 : Stands Tryz.prog 78 (ReflectliteSwapper.swap false) := fun args w => run_callFunc_extern Tryz.func78 (by kernel_rfl) (by kernel_rfl) (by kernel_rfl) (e := ReflectliteSwapper.swap false) (by kernel_rfl) args w
theorem extsOK : ExtOK Tryz.prog exts := ext_cons (xValueOf_ok st47) (ext_cons (xSwapper_ok swOK st48) (ext_cons (xLen_ok st49) (ext_cons (xSwap_ok st78) ext_nil)))
theorem opROK {m : Memo} {r : List (Nat × RF)} (h : RecsOK Tryz.prog r) : OptOK Tryz.prog (opR m r) := ⟨rfl, extsOK, h⟩
end Go.Proofs.YtgpbcnagaelhiaaGreat.Exe
