/- The given program's code as our machine reads it; the functions without a body that sort.Slice asks for, and that the machine does what they do. No conditions. -/
import Derived.KernelRfl
import Derived.Test.YtpllompnfhpfmaaGreatDoorChecked
import Derived.Test.YtpllompnfhpfmaaGreatDoorMj
namespace Go.Proofs.YtpllompnfhpfmaaGreatDoor.Exe
open Go Go.Extern Go.Extern.Rtype
noncomputable def FT : PT AF := tabOf Tryz.prog Tryz.prog.funcs.toList 0 .nil
noncomputable def cp : Nat → Code → AC := comp Tryz.prog true
noncomputable def exts : List (Nat × XF) := [(187, xValueOf Tryz.prog), (188, xSwapper Tryz.prog 284 285 [(110, 144, 292), (104, 204, 292)]), (189, xLen Tryz.prog), (292, xSwap Tryz.prog), (58, xIdx), (95, xCnt)]
/-- What a run is given: records r, known calls m. The guess takes the first entry of each range. -/
noncomputable def gsR (m : Memo) (r : List (Nat × RF)) : Opt := { first := true, ext := exts, memo := m, mg := [], guess := fun _ _ _ _ _ => none, recs := r }
noncomputable def opR (m : Memo) (r : List (Nat × RF)) : Opt := { first := false, ext := exts, memo := m, mg := [143, 85, 324, 133, 216, 325], guess := fun n => sndF (bothF FT cp (gsR m r) n), recs := r }
theorem orders : Tryz.prog.follows .mixedOrders = true := by kernel_rfl
theorem names : NamesOk Tryz.prog := fun g fn h => by
  have hall : (Tryz.prog.funcs.toList.all fun f => !(f.name == "runtime.NumGoroutine")) = true := by kernel_rfl
  have hm : fn ∈ Tryz.prog.funcs.toList := List.mem_of_getElem? (by rw [Array.getElem?_toList]; exact h)
  have := List.all_eq_true.1 hall fn hm
  simpa using this
theorem table : FT = tabOf Tryz.prog Tryz.prog.funcs.toList 0 .nil := by unfold FT; rfl
theorem coded : cp = comp Tryz.prog true := by unfold cp; rfl
theorem sw_more {P : Program} {t e f ke k : Nat} (h1 : elemT P t = some e) (h2 : (P.info? e).map (fun ie => Lib.swapperK 2 ie ke) = some k) (h3 : ∀ w, (kind e).run P w = .ok ke w) (h4 : P.funcs.findIdx? (·.name == "internal/reflectlite" ++ ".Swapper$" ++ toString k) = some f) :
    ∃ i ie ke, P.info? t = some i ∧ i.desc = .slice e ∧ P.info? e = some ie ∧ (∀ w, (kind e).run P w = .ok ke w) ∧ P.funcs.findIdx? (·.name == "internal/reflectlite" ++ ".Swapper$" ++ toString (Lib.swapperK 2 ie ke)) = some f := by
  obtain ⟨i, hi, hd⟩ := elemT_some h1
  obtain ⟨ie, hie, hk⟩ := Option.map_eq_some_iff.1 h2
  exact ⟨i, ie, ke, hi, hd, hie, h3, by rw [hk]; exact h4⟩
theorem sw110 : ∃ i ie ke, Tryz.prog.info? 110 = some i ∧ i.desc = .slice 144 ∧ Tryz.prog.info? 144 = some ie ∧ (∀ w, (Extern.Rtype.kind 144).run Tryz.prog w = .ok ke w) ∧ Tryz.prog.funcs.findIdx? (·.name == "internal/reflectlite" ++ ".Swapper$" ++ toString (Lib.swapperK 2 ie ke)) = some 292 :=
  sw_more (ke := 25) (k := 9) (by kernel_rfl) (by kernel_rfl) (fun w => by kernel_rfl) (by kernel_rfl)
theorem sw104 : ∃ i ie ke, Tryz.prog.info? 104 = some i ∧ i.desc = .slice 204 ∧ Tryz.prog.info? 204 = some ie ∧ (∀ w, (Extern.Rtype.kind 204).run Tryz.prog w = .ok ke w) ∧ Tryz.prog.funcs.findIdx? (·.name == "internal/reflectlite" ++ ".Swapper$" ++ toString (Lib.swapperK 2 ie ke)) = some 292 :=
  sw_more (ke := 25) (k := 9) (by kernel_rfl) (by kernel_rfl) (fun w => by kernel_rfl) (by kernel_rfl)
theorem swOK : SwOK Tryz.prog 284 285 [(110, 144, 292), (104, 204, 292)] where
  none := by kernel_rfl
  one := by kernel_rfl
  more := fun t e f h => by
    simp only [List.mem_cons, List.not_mem_nil, or_false, Prod.mk.injEq] at h
    rcases h with h | h
    · obtain ⟨rfl, rfl, rfl⟩ := h; exact sw110
    · obtain ⟨rfl, rfl, rfl⟩ := h; exact sw104
theorem st187 : Stands Tryz.prog 187 fun args => ReflectliteValue.unpack (args.getD 0 (.tuple #[])) := fun args w => run_callFunc_extern Tryz.func187 (by kernel_rfl) (by kernel_rfl) (by kernel_rfl) (e := fun args => ReflectliteValue.unpack (args.getD 0 (.tuple #[]))) (by kernel_rfl) args w
theorem st188 : Stands Tryz.prog 188 (ReflectliteSwapper.swapper "internal/reflectlite" (ReflectliteValue.valueError "Swapper")) := fun args w => run_callFunc_extern Tryz.func188 (by kernel_rfl) (by kernel_rfl) (by kernel_rfl) (e := ReflectliteSwapper.swapper "internal/reflectlite" (ReflectliteValue.valueError "Swapper")) (by kernel_rfl) args w
theorem st189 : Stands Tryz.prog 189 (ReflectliteValue.method (ReflectliteValue.valueError "reflectlite.Value.Len" 0) ReflectliteValue.len) := fun args w => run_callFunc_extern Tryz.func189 (by kernel_rfl) (by kernel_rfl) (by kernel_rfl) (e := ReflectliteValue.method (ReflectliteValue.valueError "reflectlite.Value.Len" 0) ReflectliteValue.len) (by kernel_rfl) args w
theorem st292 : Stands Tryz.prog 292 (ReflectliteSwapper.swap false) := fun args w => run_callFunc_extern Tryz.func292 (by kernel_rfl) (by kernel_rfl) (by kernel_rfl) (e := ReflectliteSwapper.swap false) (by kernel_rfl) args w
theorem st58 : Stands Tryz.prog 58 BytealgIndexByte.indexByte := fun args w => run_callFunc_extern Tryz.func58 (by kernel_rfl) (by kernel_rfl) (by kernel_rfl) (e := BytealgIndexByte.indexByte) (by kernel_rfl) args w
theorem st95 : Stands Tryz.prog 95 BytealgCount.count := fun args w => run_callFunc_extern Tryz.func95 (by kernel_rfl) (by kernel_rfl) (by kernel_rfl) (e := BytealgCount.count) (by kernel_rfl) args w
/-- What is known of package-level variables: the powers of ten. -/
def lg : Laid := [(5, fun o => ∃ t fz, o = .cells (Lib.pow10Tab.map fun z => Value.int .u64 z).toArray t fz)]
theorem extsOK : ExtOK lg Tryz.prog exts := ext_cons (xValueOf_ok st187) (ext_cons (xSwapper_ok swOK st188) (ext_cons (xLen_ok st189) (ext_cons (xSwap_ok st292) (ext_cons (xIdx_ok st58) (ext_cons (xCnt_ok st95) ext_nil)))))
theorem opROK {m : Memo} {r : List (Nat × RF)} (h : RecsOK lg Tryz.prog r) : OptOK lg Tryz.prog (opR m r) := ⟨rfl, extsOK, h⟩
end Go.Proofs.YtpllompnfhpfmaaGreatDoor.Exe
