/- RouteCalls holds where what it reads is of bulk at most 1048576: Parse, Join and Special answer as the reference does, and what they hand out lies apart: the call returns true. The condition: the bound of the given statement, nothing more. -/
import Derived.Test.YtochgkepaleblaaRows
import Derived.Test.YtochgkepaleblaaCallsx1
import Derived.Test.YtochgkepaleblaaPureRouteCalls
import Derived.Test.YtochgkepaleblaaTexts
import Derived.WalkKit
import Derived.ProofKit
import Derived.OpenShut
import Derived.ShutString
import Derived.ChangeOld
import Derived.Below
import Derived.SizedLaws
import Derived.JoinedCond
namespace Go.Proofs.Ytochgkepaleblaa.routeCalls
open Go.ChangeShapes Go.WideShapes Go.ChangeAt Go.RowKit
open Go.ChangeMaps (open_string shut_string)
open Go.Proofs.YtochgkepaleblaaW.PrintWords
set_option linter.unusedVariables false
theorem laidOut : laidOutB Try.prog = true := by kernel_rfl
theorem own : ownKnob Try.prog.godebug = none := by kernel_rfl
theorem strs_bulk {H : Type} (l : List ByteArray) : (Plain.flat (l.map (fun x => x.data.toList))).length ≤ Rows.uptoBulkAll (strs (H := H) l) := by
  induction l with
  | nil => simp [Plain.flat]
  | cons x l ih =>
    rw [List.map_cons, Plain.flat_cons]
    simp only [strs, List.map_cons, Rows.uptoBulkAll, Rows.uptoBulk, List.cons_append, List.length_cons, List.length_append]
    have := ih
    simp only [strs] at this
    omega
theorem bounds {H : Type} {a : ByteArray} {d : DataW H} {l : List ByteArray} (hd : d = .nil ∧ l = [] ∨ ∃ rest, d = .slice (strs l) rest) (hk : Rows.uptoSmall H [.lit (.string a.data.toList), d] = true) :
    a.size ≤ 1048576 ∧ (Plain.flat (l.map (fun x => x.data.toList))).length ≤ 1048576 := by
  have h : Rows.uptoBulkAll [DataW.lit (H := H) (.string a.data.toList), d] ≤ 1048576 := of_decide_eq_true hk
  simp only [Rows.uptoBulkAll, Rows.uptoBulk] at h
  have e : a.data.toList.length = a.size := (Plain.size_list a).symm
  refine ⟨by omega, ?_⟩
  rcases hd with ⟨_, rfl⟩ | ⟨rest, rfl⟩
  · simp [Plain.flat]
  · have h2 := strs_bulk (H := H) l
    simp only [Rows.uptoBulk] at h
    omega
set_option maxRecDepth 100000 in
theorem lifted (os : Os) (started : os.Started) (H : Type) (enc : TypeId × Value → H) (F : Stop.Interp) :
    ReturnsInHanded {} Try.checked os 4 .any ((Rows.OpenSpec.upto Rows.routeCallsSpec).pre6 enc Try.prog Try.f4 Rows.routeCallsUptoRow.domain false) (((Rows.OpenSpec.upto Rows.routeCallsSpec).at F).post enc Try.prog Try.f4 false true false false) := by
  refine returnsInHanded_of_cond (C := Try.checked) (s := Rows.OpenSpec.upto Rows.routeCallsSpec) (k := Rows.uptoSmall) rfl own started (by kernel_rfl) Try.func4
    (OpenSpec.witness (enc := enc) (C := Try.checked) (s := Rows.OpenSpec.upto Rows.routeCallsSpec) (k := Rows.uptoSmall) rfl false ⟨#[], #[.string .empty, .slice none 0 0], []⟩ 8 (by kernel_rfl) (by kernel_rfl) (by kernel_rfl)
      (x := ([.lit (.string []), .nil], [], [])) (by kernel_rfl) rfl (by kernel_rfl)) ?_
  intro W base args ds gs before hval0 hW _ hcond _
  have hval : ∀ (j : Nat) t v, Try.f4.params[j]? = some t → args[j]? = some v → Value.okWide Try.prog W .any base t v := hval0
  have hk2 : Rows.uptoSmall H (ds ++ gs) = true := hcond
  have hW0 : DataW.Whole enc Try.prog Try.f4.params.toList Rows.routeCallsSpec.vars false W args.toList ds gs before := hW
  clear hW hcond
  have hW' := hW0
  obtain ⟨p, q, hA0, hV, rfl, hfz, hnd⟩ := hW0
  have hA : DataW.TrodAll enc Try.prog W 0 (fun _ => true) true Try.f4.params.toList args.toList ds p := hA0
  rw [Try.params4] at hA hval
  obtain ⟨v0, vs0, d0, ds0, p0, q0, hargs, rfl, rfl, h0, r0⟩ := trodAll_cons hA
  obtain ⟨v1, vs1, d1, ds1, p1, q1, rfl, rfl, rfl, h1, r1⟩ := trodAll_cons r0
  obtain ⟨rfl, rfl, rfl⟩ := trodAll_nil r1
  obtain rfl : args = #[v0, v1] := by cases args; simp_all
  obtain ⟨rfl, rfl⟩ := trodVars_none hV
  obtain ⟨a0, rfl, rfl, rfl, y0⟩ := open_string Try.underlying9 (hval 0 9 v0 rfl rfl) h0
  obtain ⟨a1, len1, cap1, rfl⟩ := okWide_slice Try.underlying34 (hval 1 34 v1 rfl rfl)
  have k1 := h1
  have lt1 : ∀ x ∈ p1, x.block < W.heap.size := by obtain ⟨m, hm⟩ := k1; exact DataW.trod_lt m _ _ _ hm
  obtain ⟨l1, rfl, hs1, hv1, hd1⟩ := Texts.open_texts Try.underlying34 Try.underlying9 (by kernel_rfl) h1
  clear hA0 hval0
  obtain ⟨b1, b2⟩ := bounds hd1 (by simpa using hk2)
  obtain ⟨kk, hk⟩ := PureCalls.calls a0 l1 (by omega) (by omega)
  have hC : Kd.C Kd.string W a1 l1.length l1 ∧ l1.length ≤ cap1 := by
    obtain ⟨A, c, e, hc, hf⟩ := hv1
    injection e with e1 e2 e3
    subst e1 e3
    exact ⟨hf W (fun _ _ _ => rfl), hc⟩
  refine (Calls.undercroftlaw20_RouteCalls.calls kk a0 a1 cap1 l1 true W hC.1 hC.2 hk rfl).mono fun e W' ⟨he, bel⟩ => ?_
  subst he
  exact ⟨_, rfl, _, _, _, [], _, [], hW', trodAll_mk1 (shut_bool Try.underlying4 _), (trodAll_cons_mk (shut_string Try.underlying9 y0) (trodAll_cons_mk (Below.trod laidOut (by kernel_rfl) (of_decide_eq_true (by kernel_rfl)) k1 bel lt1) trodAll_mk0)), rfl, bel.frame _, fun h => by cases h⟩
theorem over : Rows.routeCallsUptoRow.holds Try.pinned (Rows.OpenSpec.upto Rows.routeCallsSpec) :=
  OpenClaim.holds_of_cond 4 Try.f4 rfl rfl rfl rfl rfl rfl rfl ⟨rfl, rfl, rfl, rfl, rfl⟩ rfl rfl rfl rfl rfl (by kernel_rfl) Try.func4 (by kernel_rfl)
    (of_decide_eq_true (by kernel_rfl)) (by unfold Func.isWrapper; first | (rw [if_pos (by decide +kernel)]; kernel_rfl) | (rw [if_neg (by decide +kernel)]; exact ⟨rfl, rfl⟩))
    (fun os started H enc _ F => lifted os started H enc F)
theorem proved : Rows.RouteCallsUptoSaid := over
#print axioms proved
end Go.Proofs.Ytochgkepaleblaa.routeCalls
namespace Go.Proofs.Ytochgkepaleblaa
/-- The row, under a short name, for the claim. -/
theorem routeCallsUpto_holds : Rows.RouteCallsUptoSaid := routeCalls.proved
end Go.Proofs.Ytochgkepaleblaa
