/- RouteNames holds: the closed examples of chapter 20 are answered true. No condition. -/
import Derived.Test.YtochgkepaleblaaRoutex1
namespace Go.Proofs.Ytochgkepaleblaa.Pure
open Go.RowKit Go.Proofs.Ytochgkepaleblaa.Route Go.Proofs.Ytochgkepaleblaa.Plain Go.Proofs.Ytochgkepaleblaa.Base Go.Proofs.Ytochgkepaleblaa.Hand Go.Proofs.YtochgkepaleblaaW.PrintWords Go.Proofs.YtochgkepaleblaaW.PrintLast

theorem strokes_cut (n : Nat) : pcs (List.replicate n 47) [] = [] := by
  induction n with
  | zero => rfl
  | succ n ih => rw [List.replicate_succ, pcs_stroke, ih]
theorem strokes_parse : parse (List.replicate 1024 47) = ([], 0) :=
  parse_good ⟨⟨List.replicate 1023 47, rfl⟩, by rw [List.length_replicate]; exact Nat.le_refl _, fun h => absurd (List.eq_of_mem_replicate h) (by decide), strokes_cut _, rfl⟩

set_option maxRecDepth 100000 in
theorem RouteNames : undercroftlaw20_RouteNames.Pure := by
  unfold undercroftlaw20_RouteNames.Pure undercroftlaw20_RouteNames.f
  refine Ev.rounds ?_
  refine Ev.bind (parse_at [47, 46, 47, 46, 46] ([[46], [46, 46]], 0) (by decide) (by decide)) ?_
  refine Ev.bind (strokes_ev 1024 (by decide)) ?_
  refine Ev.bind (parse_at (List.replicate 1024 47) ([], 0) (by rw [List.length_replicate]; decide) strokes_parse) ?_
  refine Ev.bind (strokes_ev 1025 (by decide)) ?_
  refine Ev.bind (parse_ev (mk (List.replicate 1025 47)) (by rw [mk_size, List.length_replicate]; decide)) ?_
  have hfar : (parse (mk (List.replicate 1025 47)).data.toList).2 = 4 := parse_far (by rw [data_mk, List.length_replicate]; decide)
  refine Ev.bind (parse_at [47, 97, 98, 99, 100, 101, 102, 103, 104, 105, 106, 107, 108, 109, 110] ([[97, 98, 99, 100, 101, 102, 103, 104, 105, 106, 107, 108, 109, 110]], 0) (by decide) (by decide)) ?_
  refine Ev.bind (parse_at [47, 97, 98, 99, 100, 101, 102, 103, 104, 105, 106, 107, 108, 109, 110, 111, 0] ([], 4) (by decide) (by decide)) ?_
  refine Ev.bind (parse_at [] ([], 4) (by decide) (by decide)) ?_
  simp only [Plain.up, if_true, hfar]
  refine Ev.bind (same_ev [[46], [46, 46]] [[46], [46, 46]] (by decide)) ?_
  simp only [decide_true, if_true, List.map_nil, List.length_nil, Int.natCast_zero]
  have h1 := special_f [[46]] (by decide)
  have h2 := special_f [[97], [46, 46]] (by decide)
  have h3 := special_f [[97]] (by decide)
  have h4 := special_f [[46, 46, 46]] (by decide)
  have h5 := join_f [[46, 46]] (by decide) (by decide)
  have e1 : route_Special.f [(⟨#[46]⟩ : ByteArray)] = some true := h1
  have e2 : route_Special.f [(⟨#[97]⟩ : ByteArray), (⟨#[46, 46]⟩ : ByteArray)] = some true := h2
  have e3 : route_Special.f [(⟨#[97]⟩ : ByteArray)] = some false := h3
  have e4 : route_Special.f [(⟨#[46, 46, 46]⟩ : ByteArray)] = some false := h4
  have e5 : route_Join.f [(⟨#[46, 46]⟩ : ByteArray)] = some (mk [47, 46, 46]) := h5
  refine Ev.step (f := fun _ => some true) (fun k => ?_) (Ev.now _)
  simp only [undercroftlaw20_RouteNames.j0, e1, e2, e3, e4, e5, undercroftlaw20_lives.f, Option.bind_some, if_true, toList_mk]
  rfl
end Go.Proofs.Ytochgkepaleblaa.Pure
