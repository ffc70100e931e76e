/- ModelRecover holds where what it reads is of bulk at most 1048576: Recover and Same answer as the reference does, what was handed in stays, and what is told lies apart: the call returns true. The condition: the bound of the given statement, nothing more. -/
import Derived.Test.YtochgkepaleblaaRows
import Derived.Test.YtochgkepaleblaaWalkRec
import Derived.Test.YtochgkepaleblaaOpen
import Derived.WalkKit
import Derived.ProofKit
import Derived.OpenShut
import Derived.ShutString
import Derived.ChangeOld
import Derived.Below
import Derived.SizedLaws
import Derived.JoinedCond
namespace Go.Proofs.Ytochgkepaleblaa.modelRecover
open Go.ChangeShapes Go.WideShapes Go.ChangeAt Go.RowKit
open Go.Proofs.YtochgkepaleblaaW.PrintWords
set_option linter.unusedVariables false
theorem laidOut : laidOutB Try.prog = true := by kernel_rfl
theorem own : ownKnob Try.prog.godebug = none := by kernel_rfl
theorem bounds {H : Type} {d0 d1 : DataW H} (hk : Rows.uptoSmall H [d0, d1] = true) : Rows.uptoBulk d0 + Rows.uptoBulk d1 ≤ 1048576 := by
  have h : Rows.uptoBulkAll [d0, d1] ≤ 1048576 := of_decide_eq_true hk
  simp only [Rows.uptoBulkAll] at h
  omega
set_option maxRecDepth 100000 in
theorem lifted (os : Os) (started : os.Started) (H : Type) (enc : TypeId × Value → H) (F : Stop.Interp) :
    ReturnsInHanded {} Try.checked os 3 .any ((Rows.OpenSpec.upto Rows.modelRecoverSpec).pre6 enc Try.prog Try.f3 Rows.modelRecoverUptoRow.domain false) (((Rows.OpenSpec.upto Rows.modelRecoverSpec).at F).post enc Try.prog Try.f3 false true false false) := by
  refine returnsInHanded_of_cond (C := Try.checked) (s := Rows.OpenSpec.upto Rows.modelRecoverSpec) (k := Rows.uptoSmall) rfl own started (by kernel_rfl) Try.func3
    (OpenSpec.witness (enc := enc) (C := Try.checked) (s := Rows.OpenSpec.upto Rows.modelRecoverSpec) (k := Rows.uptoSmall) rfl false ⟨#[], #[.agg #[.slice none 0 0, .int .i64 0, .int .i64 0], .agg #[.slice none 0 0, .int .i64 0, .int .i64 0]], []⟩ 8 (by kernel_rfl) (by kernel_rfl) (by kernel_rfl)
      (x := ([.agg [.nil, .lit (.int .i64 0), .lit (.int .i64 0)], .agg [.nil, .lit (.int .i64 0), .lit (.int .i64 0)]], [], [])) (by kernel_rfl) rfl (by kernel_rfl)) ?_
  intro W base args ds gs before hval0 hW _ hcond _
  have hval : ∀ (j : Nat) t v, Try.f3.params[j]? = some t → args[j]? = some v → Value.okWide Try.prog W .any base t v := hval0
  have hk2 : Rows.uptoSmall H (ds ++ gs) = true := hcond
  have hW0 : DataW.Whole enc Try.prog Try.f3.params.toList Rows.modelRecoverSpec.vars false W args.toList ds gs before := hW
  clear hW hcond
  have hW' := hW0
  obtain ⟨p, q, hA0, hV, rfl, hfz, hnd⟩ := hW0
  have hA : DataW.TrodAll enc Try.prog W 0 (fun _ => true) true Try.f3.params.toList args.toList ds p := hA0
  rw [Try.params3] at hA hval
  obtain ⟨v0, vs0, d0, ds0, p0, q0, hargs, rfl, rfl, h0, r0⟩ := trodAll_cons hA
  obtain ⟨v1, vs1, d1, ds1, p1, q1, rfl, rfl, rfl, h1, r1⟩ := trodAll_cons r0
  obtain ⟨rfl, rfl, rfl⟩ := trodAll_nil r1
  obtain rfl : args = #[v0, v1] := by cases args; simp_all
  obtain ⟨rfl, rfl⟩ := trodVars_none hV
  obtain ⟨cs0, rfl, _⟩ := okWide_struct Try.underlying24 (hval 0 24 v0 rfl rfl)
  obtain ⟨cs1, rfl, _⟩ := okWide_struct Try.underlying24 (hval 1 24 v1 rfl rfl)
  have k0 := h0
  have k1 := h1
  have lt0 : ∀ x ∈ p0, x.block < W.heap.size := by obtain ⟨m, hm⟩ := k0; exact DataW.trod_lt m _ _ _ hm
  have lt1 : ∀ x ∈ p1, x.block < W.heap.size := by obtain ⟨m, hm⟩ := k1; exact DataW.trod_lt m _ _ _ hm
  obtain ⟨m0, hm0⟩ := h0
  obtain ⟨m1, hm1⟩ := h1
  obtain ⟨A0, c0, l0, f0, s0, e0, hc0, g0, b0⟩ := OpenS.open24 hm0
  obtain ⟨A1, c1, l1, f1, s1, e1, hc1, g1, b1⟩ := OpenS.open24 hm1
  have e0' : cs0 = #[.slice A0 l0.length c0, .int .i64 f0, .int .i64 s0] := by
    have e0' : cs0.toList = _ := e0
    rw [← Array.toArray_toList (xs := cs0), e0']
  have e1' : cs1 = #[.slice A1 l1.length c1, .int .i64 f1, .int .i64 s1] := by
    have e1' : cs1.toList = _ := e1
    rw [← Array.toArray_toList (xs := cs1), e1']
  subst e0' e1'
  clear hA0 hval0 hm0 hm1
  have hb := bounds (by simpa using hk2)
  have b0' : OpenS.wt24 l0 ≤ Rows.uptoBulk d0 := b0
  have b1' : OpenS.wt24 l1 ≤ Rows.uptoBulk d1 := b1
  have hlen := OpenS.wt_len l0
  refine (WalkRec.walk W A0 A1 c0 c1 l0 l1 f0 s0 f1 s1 (OpenS.small_of (by omega)) (OpenS.small_of (by omega)) (OpenS.V_of hc0 g0) (OpenS.V_of hc1 g1) (by omega)).mono fun e W' ⟨he, bel⟩ => ?_
  subst he
  exact ⟨_, rfl, _, _, _, [], _, [], hW', trodAll_mk1 (shut_bool Try.underlying4 _), (trodAll_cons_mk (Below.trod laidOut (by kernel_rfl) (of_decide_eq_true (by kernel_rfl)) k0 bel lt0) (trodAll_cons_mk (Below.trod laidOut (by kernel_rfl) (of_decide_eq_true (by kernel_rfl)) k1 bel lt1) trodAll_mk0)), rfl, bel.frame _, fun h => by cases h⟩
theorem over : Rows.modelRecoverUptoRow.holds Try.pinned (Rows.OpenSpec.upto Rows.modelRecoverSpec) :=
  OpenClaim.holds_of_cond 3 Try.f3 rfl rfl rfl rfl rfl rfl rfl ⟨rfl, rfl, rfl, rfl, rfl⟩ rfl rfl rfl rfl rfl (by kernel_rfl) Try.func3 (by kernel_rfl)
    (of_decide_eq_true (by kernel_rfl)) (by unfold Func.isWrapper; first | (rw [if_pos (by decide +kernel)]; kernel_rfl) | (rw [if_neg (by decide +kernel)]; exact ⟨rfl, rfl⟩))
    (fun os started H enc _ F => lifted os started H enc F)
theorem proved : Rows.ModelRecoverUptoSaid := over
#print axioms proved
end Go.Proofs.Ytochgkepaleblaa.modelRecover
namespace Go.Proofs.Ytochgkepaleblaa
/-- The row, under a short name, for the claim. -/
theorem modelRecoverUpto_holds : Rows.ModelRecoverUptoSaid := modelRecover.proved
end Go.Proofs.Ytochgkepaleblaa
