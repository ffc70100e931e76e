/- ModelNone holds: a model that is nil, or that nobody made: whatever calls are handed in, the call returns true. No conditions. -/
import Derived.Test.YtpochibfjpanhaaGreatRows
import Derived.Test.YtpochibfjpanhaaGreatNone
import Derived.SizedLaws
import Derived.WalkKit
import Derived.Laws.ResultCell
import Derived.Laws.Rows
import Derived.Tactics
import Derived.ProofKit
import Derived.OpenShut
import Derived.ShutString
import Derived.ChangeOld
import Derived.ChangeArms
import Derived.DataReads
import Derived.Below
namespace Go.Proofs.YtpochibfjpanhaaGreat.modelNone
open Go.ChangeShapes Go.WideShapes Go.ChangeAt Go.RowKit
set_option linter.unusedVariables false
theorem own : ownKnob Tryz.prog.godebug = none := by kernel_rfl
theorem laidOut : laidOutB Tryz.prog = true := by kernel_rfl
theorem drop1 {cs : List Value} {n : Nat} {v : Value} (h : (cs.drop n).take 1 = [v]) : cs[n]? = some v := by
  have := congrArg (fun l => l[0]?) h
  simpa using this
section
variable {H : Type} {enc : TypeId × Value → H} {W : World} {base : Nat} {spare : Nat → Bool} {held : Bool}
/-- A call that is read lies in seven cells. -/
theorem seven {fuel : Nat} {cs : List Value} {x : DataW H × List MemPlace} (hx : DataW.trod enc Tryz.prog W base spare held fuel 37 cs = some x) :
    ∃ c0 c1 c2 c3 c4 c5 c6, cs = [c0, c1, c2, c3, c4, c5, c6] ∧ (c0.cells = #[c0] ∧ c0.oneCell' = true) ∧ (c1.cells = #[c1] ∧ c1.oneCell' = true) ∧ (c2.cells = #[c2] ∧ c2.oneCell' = true) ∧ (c3.cells = #[c3] ∧ c3.oneCell' = true) ∧ (c4.cells = #[c4] ∧ c4.oneCell' = true) ∧ (c5.cells = #[c5] ∧ c5.oneCell' = true) ∧ (c6.cells = #[c6] ∧ c6.oneCell' = true) := by
  obtain ⟨xs, n, _, rfl, hl, hlen, hf⟩ := DataW.trod_struct Tryz.underlying37 hx
  have hl2 : cs.length = 7 := hl.trans (by kernel_rfl)
  have c34 : Tryz.prog.cellsOf 34 = 1 := by kernel_rfl
  have c9 : Tryz.prog.cellsOf 9 = 1 := by kernel_rfl
  have c3 : Tryz.prog.cellsOf 3 = 1 := by kernel_rfl
  have c35 : Tryz.prog.cellsOf 35 = 1 := by kernel_rfl
  match xs, hlen with
  | [y0, y1, y2, y3, y4, y5, y6], _ =>
    have h0 : DataW.trod enc Tryz.prog W base spare held n 34 ((cs.drop 0).take (Tryz.prog.cellsOf 34)) = some y0 := hf 0 _ rfl
    have h1 : DataW.trod enc Tryz.prog W base spare held n 9 ((cs.drop 1).take (Tryz.prog.cellsOf 9)) = some y1 := hf 1 _ rfl
    have h2 : DataW.trod enc Tryz.prog W base spare held n 9 ((cs.drop 2).take (Tryz.prog.cellsOf 9)) = some y2 := hf 2 _ rfl
    have h3 : DataW.trod enc Tryz.prog W base spare held n 3 ((cs.drop 3).take (Tryz.prog.cellsOf 3)) = some y3 := hf 3 _ rfl
    have h4 : DataW.trod enc Tryz.prog W base spare held n 3 ((cs.drop 4).take (Tryz.prog.cellsOf 3)) = some y4 := hf 4 _ rfl
    have h5 : DataW.trod enc Tryz.prog W base spare held n 3 ((cs.drop 5).take (Tryz.prog.cellsOf 3)) = some y5 := hf 5 _ rfl
    have h6 : DataW.trod enc Tryz.prog W base spare held n 35 ((cs.drop 6).take (Tryz.prog.cellsOf 35)) = some y6 := hf 6 _ rfl
    rw [c34] at h0
    rw [c9] at h1 h2
    rw [c3] at h3 h4 h5
    rw [c35] at h6
    obtain ⟨i0, e0, _, _⟩ := DataW.trod_int Tryz.underlying34 h0
    obtain ⟨i1, e1, _, _⟩ := DataW.trod_string Tryz.underlying9 h1
    obtain ⟨i2, e2, _, _⟩ := DataW.trod_string Tryz.underlying9 h2
    obtain ⟨i3, e3, _, _⟩ := DataW.trod_int Tryz.underlying3 h3
    obtain ⟨i4, e4, _, _⟩ := DataW.trod_int Tryz.underlying3 h4
    obtain ⟨i5, e5, _, _⟩ := DataW.trod_int Tryz.underlying3 h5
    have e6 : ∃ A l c, (cs.drop 6).take 1 = [.slice A l c] := by
      rcases DataW.trod_slice Tryz.underlying35 h6 with ⟨e, _⟩ | ⟨a, len, cap, _, _, _, _, e, _⟩
      · exact ⟨_, _, _, e⟩
      · exact ⟨_, _, _, e⟩
    obtain ⟨A, l, c, e6⟩ := e6
    have g0 := drop1 e0
    have g1 := drop1 e1
    have g2 := drop1 e2
    have g3 := drop1 e3
    have g4 := drop1 e4
    have g5 := drop1 e5
    have g6 := drop1 e6
    clear h0 h1 h2 h3 h4 h5 h6 e0 e1 e2 e3 e4 e5 e6 hx hf hl c34 c9 c3 c35
    match cs, hl2 with
    | [v0, v1, v2, v3, v4, v5, v6], _ =>
      obtain rfl : v0 = .int .u8 i0 := by simpa using g0
      obtain rfl : v1 = .string i1 := by simpa using g1
      obtain rfl : v2 = .string i2 := by simpa using g2
      obtain rfl : v3 = .int .i64 i3 := by simpa using g3
      obtain rfl : v4 = .int .i64 i4 := by simpa using g4
      obtain rfl : v5 = .int .i64 i5 := by simpa using g5
      obtain rfl : v6 = .slice A l c := by simpa using g6
      exact ⟨_, _, _, _, _, _, _, rfl, ⟨rfl, rfl⟩, ⟨rfl, rfl⟩, ⟨rfl, rfl⟩, ⟨rfl, rfl⟩, ⟨rfl, rfl⟩, ⟨rfl, rfl⟩, ⟨rfl, rfl⟩⟩
set_option maxRecDepth 100000 in
theorem calls_read {fuel : Nat} {A : Option Addr} {n c : Nat} {x : DataW H × List MemPlace} (hx : DataW.trod enc Tryz.prog W base spare held fuel 22 [.slice A n c] = some x) : (n = 0 ∨ ∃ elems rest, x.1 = .slice elems rest ∧ elems.length = n) ∧ Exe.Seven W A n := by
  rcases DataW.trod_slice Tryz.underlying22 hx with ⟨e, rfl⟩ | ⟨a, len, cap, elems, rest, m, _, e, rfl, hb, hl, hm, hlen, hel, _, _⟩
  · cases e
    exact ⟨.inl rfl, fun i hi => absurd hi (Nat.not_lt_zero i)⟩
  · cases e
    refine ⟨.inr ⟨_, _, rfl, by rw [List.length_map]; exact hlen⟩, fun i hi => ?_⟩
    have h1 := hel i hi
    rw [List.getElem?_eq_getElem (by omega), Option.bind_eq_some_iff] at h1
    obtain ⟨cs', h2, h3⟩ := h1
    obtain ⟨c0, c1, c2, c3, c4, c5, c6, rfl, h⟩ := seven h3
    have hc : Tryz.prog.cellsOf 37 = 7 := by kernel_rfl
    rw [hc] at h2
    obtain ⟨_, _, hcc⟩ := World.cells?_some h2
    obtain ⟨b, o, sp⟩ := a
    have hsp : sp = none := by
      have g1 := hel 0 (by omega)
      rw [List.getElem?_eq_getElem (by omega), Option.bind_eq_some_iff] at g1
      obtain ⟨cs2, g2, g3⟩ := g1
      obtain ⟨d0, d1, d2, d3, d4, d5, d6, rfl, _⟩ := seven g3
      rw [hc] at g2
      obtain ⟨_, _, gcc⟩ := World.cells?_some g2
      have := World.cell?_spot (gcc 0 (by decide))
      simpa [Addr.add] using this
    subst hsp
    refine ⟨b, o, c0, c1, c2, c3, c4, c5, c6, rfl, fun j v hv => ?_, h⟩
    have hj := (List.getElem?_eq_some_iff.1 hv).1
    have h4 := hcc j hj
    rw [Addr.add_mid, Addr.add_mid] at h4
    rw [← hv]
    exact h4
end
set_option maxRecDepth 100000 in
theorem lifted (os : Os) (started : os.Started) (H : Type) (enc : TypeId × Value → H) :
    ReturnsInHanded {} Tryz.checked os 3 .any (Rows.modelNoneSpec.pre6 enc Tryz.prog Tryz.f3 Rows.modelNoneRow.domain false) (Rows.modelNoneSpec.post enc Tryz.prog Tryz.f3 false true false false) := by
  refine returnsInHanded_of_change_sized (C := Tryz.checked) own started (by kernel_rfl) Tryz.func3
    (ChangeSpec.witness6 (enc := enc) (C := Tryz.checked) false ⟨#[], #[.slice none 0 0], []⟩ 8 (by kernel_rfl) (by kernel_rfl) (by kernel_rfl) (by kernel_rfl)) ?_
  intro W base args ds gs before hval0 hW hcnd hsz0 _
  have hval : ∀ (j : Nat) t v, Tryz.f3.params[j]? = some t → args[j]? = some v → Value.okWide Tryz.prog W .any base t v := hval0
  have hW' := hW
  obtain ⟨p, q, hA0, hV, rfl, hfz, hnd⟩ := hW
  have hA : DataW.TrodAll enc Tryz.prog W 0 (fun _ => true) true Tryz.f3.params.toList args.toList ds p := hA0
  rw [Tryz.params3] at hA hval
  obtain ⟨v0, vs0, d0, ds0, p0, q0, hargs, rfl, rfl, h0, r0⟩ := trodAll_cons hA
  obtain ⟨rfl, rfl, rfl⟩ := trodAll_nil r0
  obtain rfl : args = #[v0] := by cases args; simp_all
  obtain ⟨rfl, rfl⟩ := trodVars_none hV
  have k0 := h0
  have lt0 : ∀ x ∈ p0, x.block < W.heap.size := by obtain ⟨m, hm⟩ := k0; exact DataW.trod_lt m _ _ _ hm
  obtain ⟨A, n, c, rfl⟩ := okWide_slice Tryz.underlying22 (hval 0 22 v0 rfl rfl)
  obtain ⟨m, hm⟩ := h0
  obtain ⟨hn0, h7⟩ := calls_read hm
  have hn : n < 2 ^ 62 := by
    rcases hn0 with rfl | ⟨elems, rest, e1, e2⟩
    · decide
    · have := sized_slice hsz0 (j := 0) (t := 22) (e := 37) (elems := elems) (spare := rest) (by rw [Tryz.params3]; rfl) (by rw [← e1]; rfl) Tryz.underlying22
      have hb : Tryz.checked.prog.bytesOf 37 = 88 := by kernel_rfl
      rw [hb] at this
      unfold reachBytes at this
      omega
  clear hA0 hval0 hsz0
  refine (Exe.law W A n c hn h7).mono fun e W' ⟨he, bel⟩ => ?_
  subst he
  exact ⟨_, rfl, _, _, _, [], _, [], hW', trodAll_mk1 (shut_bool Tryz.underlying4 _), (trodAll_cons_mk (Below.trod laidOut (by kernel_rfl) (of_decide_eq_true (by kernel_rfl)) k0 bel lt0) trodAll_mk0), rfl, bel.frame _, fun h => by cases h⟩
theorem over : Rows.modelNoneRow.holds Tryz.pinned (OpenSpec.ofChange Rows.modelNoneSpec) :=
  OpenClaim.holds_of_wide 3 Tryz.f3 rfl rfl rfl rfl rfl rfl rfl ⟨rfl, rfl, rfl, rfl, rfl⟩ rfl rfl rfl rfl rfl (by kernel_rfl) Tryz.func3 (by kernel_rfl)
    (of_decide_eq_true (by kernel_rfl)) (by unfold Func.isWrapper; first | (rw [if_pos (by decide +kernel)]; kernel_rfl) | (rw [if_neg (by decide +kernel)]; exact ⟨rfl, rfl⟩))
    (fun os started H enc _ => lifted os started H enc)
theorem proved : Rows.ModelNoneSaid := over
#print axioms proved
end Go.Proofs.YtpochibfjpanhaaGreat.modelNone
namespace Go.Proofs.YtpochibfjpanhaaGreat
/-- The row, under a short name, for the claim. -/
theorem modelNone_holds : Rows.ModelNoneSaid := modelNone.proved
end Go.Proofs.YtpochibfjpanhaaGreat
