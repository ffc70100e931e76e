/- OrphanNone holds: the call returns true, whatever is handed in. No conditions. -/
import Derived.Test.YtoldaakppnbhjaaGreatRows
import Derived.Test.YtoldaakppnbhjaaGreatRunOrphanNone
import Derived.SizedLaws
import Derived.WalkKit
import Derived.Laws.ResultCell
import Derived.Laws.Rows
import Derived.Tactics
import Derived.ProofKit
import Derived.OpenShut
import Derived.ShutString
import Derived.ChangeOld
import Derived.Below
namespace Go.Proofs.YtoldaakppnbhjaaGreat.orphanNone
open Go.ChangeShapes Go.WideShapes Go.ChangeAt Go.RowKit
set_option linter.unusedVariables false
theorem own : ownKnob Tryz.prog.godebug = none := by kernel_rfl
theorem laidOut : laidOutB Tryz.prog = true := by kernel_rfl
theorem anyInt {P : Program} {W : World} {base : Nat} {t : TypeId} {k : IntKind} {v : Value} (hu : P.underlying t = some (.int k)) (h : Value.okWide P W .any base t v) : Exe.DenL (fun _ => none) [.any] [v] := by
  unfold Value.okWide at h
  simp only [hu] at h
  have h1 := Exe.okWide_one h
  exact .cons (.any h1.1 h1.2) .nil
theorem ran : Exe.sndF (Exe.bothF (Exe.tabOf Tryz.prog Tryz.prog.funcs.toList 0 .nil) (Exe.comp Tryz.prog true) Exe.tab 1000000) (.fn 3) [.any] Exe.start Exe.fin = some (.bool true, Exe.start) := by
  rw [← Exe.table, ← Exe.coded]; exact Exe.runOrphanNone
set_option maxRecDepth 100000 in
theorem lifted (os : Os) (started : os.Started) (H : Type) (enc : TypeId × Value → H) :
    ReturnsInHanded {} Tryz.checked os 3 .any (Rows.orphanNoneSpec.pre6 enc Tryz.prog Tryz.f3 Rows.orphanNoneRow.domain false) (Rows.orphanNoneSpec.post enc Tryz.prog Tryz.f3 false true false false) := by
  refine returnsInHanded_of_change_sized (C := Tryz.checked) own started (by kernel_rfl) Tryz.func3
    (ChangeSpec.witness6 (enc := enc) (C := Tryz.checked) false ⟨#[], #[.int .i64 0], []⟩ 8 (by kernel_rfl) (by kernel_rfl) (by kernel_rfl) (by kernel_rfl)) ?_
  intro W base args ds gs before hval0 hW hcnd hsz0 _
  have hval : ∀ (j : Nat) t v, Tryz.f3.params[j]? = some t → args[j]? = some v → Value.okWide Tryz.prog W .any base t v := hval0
  have hW' := hW
  obtain ⟨p, q, hA0, hV, rfl, hfz, hnd⟩ := hW
  have hA : DataW.TrodAll enc Tryz.prog W 0 (fun _ => true) true Tryz.f3.params.toList args.toList ds p := hA0
  rw [Tryz.params3] at hA hval
  obtain ⟨v0, vs0, d0, ds0, p0, q0, hargs, rfl, rfl, h0, r0⟩ := trodAll_cons hA
  obtain ⟨rfl, rfl, rfl⟩ := trodAll_nil r0
  obtain rfl : args = #[v0] := by cases args; simp_all
  obtain ⟨rfl, rfl⟩ := trodVars_none hV
  have k0 := h0
  have lt0 : ∀ x ∈ p0, x.block < W.heap.size := by obtain ⟨m, hm⟩ := k0; exact DataW.trod_lt m _ _ _ hm
  have hdl := anyInt Tryz.underlying3 (hval 0 _ v0 rfl rfl)
  clear hA0 hval0 hsz0
  refine (Exe.execF_args (n := 1000000) Exe.knownTab Exe.orders Exe.names hdl ran W).mono fun e W' ⟨he, h1, h2, h3, h4, h5⟩ => ?_
  subst he
  have bel : Below W.heap.size W W' := ⟨h3, h5, h4, h2, h1⟩
  exact ⟨_, rfl, _, _, _, [], _, [], hW', trodAll_mk1 (shut_bool Tryz.underlying4 _), (trodAll_cons_mk (Below.trod laidOut (by kernel_rfl) (of_decide_eq_true (by kernel_rfl)) k0 bel lt0) trodAll_mk0), rfl, bel.frame _, fun h => by cases h⟩
theorem over : Rows.orphanNoneRow.holds Tryz.pinned (OpenSpec.ofChange Rows.orphanNoneSpec) :=
  OpenClaim.holds_of_wide 3 Tryz.f3 rfl rfl rfl rfl rfl rfl rfl ⟨rfl, rfl, rfl, rfl, rfl⟩ rfl rfl rfl rfl rfl (by kernel_rfl) Tryz.func3 (by kernel_rfl)
    (of_decide_eq_true (by kernel_rfl)) (by unfold Func.isWrapper; first | (rw [if_pos (by decide +kernel)]; kernel_rfl) | (rw [if_neg (by decide +kernel)]; exact ⟨rfl, rfl⟩))
    (fun os started H enc _ => lifted os started H enc)
theorem proved : Rows.OrphanNoneSaid := over
#print axioms proved
end Go.Proofs.YtoldaakppnbhjaaGreat.orphanNone
namespace Go.Proofs.YtoldaakppnbhjaaGreat
/-- The row, under a short name, for the claim. -/
theorem orphanNone_holds : Rows.OrphanNoneSaid := orphanNone.proved
end Go.Proofs.YtoldaakppnbhjaaGreat
