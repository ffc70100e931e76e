/- RouteBehind holds: the names of two paths one behind the other. No condition. -/
import Derived.Test.YtochgkepaleblaaRoutex1
namespace Go.Proofs.Ytochgkepaleblaa.Pure
open Go.RowKit Go.Proofs.Ytochgkepaleblaa.Route Go.Proofs.Ytochgkepaleblaa.Plain Go.Proofs.Ytochgkepaleblaa.Base Go.Proofs.Ytochgkepaleblaa.Hand Go.Proofs.YtochgkepaleblaaW.PrintWords Go.Proofs.YtochgkepaleblaaW.PrintLast

theorem good_count {p : List UInt8} {l : List (List UInt8)} (h : Plain.Good p l) : l.length ≤ 1024 := by
  have h1 := good_path_len h
  have h2 := h.len
  have h3 : l.length ≤ (path l).length := by
    unfold path
    split
    · rename_i e
      rw [e]
      simp
    · clear h h1 h2
      induction l with
      | nil => simp
      | cons x l ih =>
        rw [flat_cons]
        simp only [List.length_cons, List.length_append]
        by_cases e : l = []
        · subst e
          simp
          omega
        · have := ih e
          omega
  omega
theorem RouteBehind : undercroftlaw20_RouteBehind.Pure := by
  intro a b ha hb
  have hsa := size_list a
  have hsb := size_list b
  unfold undercroftlaw20_RouteBehind.f
  simp only [undercroftlaw20_lives.f, Option.bind_some, if_true]
  refine Ev.rounds ?_
  refine Ev.bind (parse_ev a ha) ?_
  refine Ev.bind (parse_ev b hb) ?_
  have hyes : ∀ x y, Ev (fun k => undercroftlaw20_RouteBehind.j0 k a b x y true) true := by
    intro x y
    refine Ev.step (f := fun _ => some true) (fun k => ?_) (Ev.now _)
    simp only [undercroftlaw20_RouteBehind.j0, if_true]
  by_cases h1 : (parse a.data.toList).2 = 0
  · by_cases h2 : (parse b.data.toList).2 = 0
    · simp only [Plain.up, h1, h2, if_true]
      rw [Plain.wrap_small (i := (a.size : Int) + (b.size : Int)) (by omega) (by omega)]
      by_cases hl : (a.size : Int) + (b.size : Int) > 1024
      · rw [decide_eq_true hl]
        exact hyes _ _
      · rw [decide_eq_false hl]
        have g1 := good_parse h1
        have g2 := good_parse h2
        have g := good_behind g1 g2 (by omega)
        have hp := parse_good g
        have c1 := good_count g1
        have c2 := good_count g2
        generalize (parse a.data.toList).1 = x at g1 g hp c1 ⊢
        generalize (parse b.data.toList).1 = y at g2 g hp c2 ⊢
        have happ : a ++ b = mk (a.data.toList ++ b.data.toList) := by rw [← mk_app, mk_data, mk_data]
        have hpe : Ev (fun k => route_Parse.f k (a ++ b)) (Plain.up (x ++ y, 0)) := by
          rw [happ]
          exact parse_at _ _ (by simp; omega) hp
        refine Ev.step (f := fun k => (route_Parse.f k (a ++ b)).bind fun bt => if bt.2 = 0 then (undercroftkit_SameTexts.f k bt.1 ((x ++ y).map mk)).bind fun t => some t else some false) (fun k => ?_) ?_
        · simp only [undercroftlaw20_RouteBehind.j0]
          rw [if_neg (by simp), if_pos (by omega)]
          congr 1
          funext bt
          rw [if_pos (by simp; omega)]
          simp only [List.nil_append, Option.bind_some]
          rw [if_pos (by simp; omega)]
          by_cases hy : y = []
          · rw [if_neg (by simp [hy]), List.map_append]
          · have hpos : 0 < y.length := List.length_pos_iff.2 hy
            have hs1 := special_f (x ++ y) (by simp; omega)
            have hs2 := special_f y (by omega)
            rw [special_app x y hy, List.map_append] at hs1
            rw [if_pos (by simp; omega), hs1, hs2]
            simp only [Option.bind_some, bne_self_eq_false, Bool.false_eq_true, if_false, List.map_append]
        · refine Ev.bind hpe ?_
          simp only [Plain.up, if_true]
          refine Ev.bind (same_ev (x ++ y) (x ++ y) (by simp; omega)) ?_
          rw [decide_eq_true rfl]
          exact Ev.now _
    · have : (Plain.up (parse b.data.toList)).2 ≠ 0 := h2
      simp only [if_neg this]
      split
      · exact hyes _ _
      · exact hyes _ _
  · have : (Plain.up (parse a.data.toList)).2 ≠ 0 := h1
    simp only [if_neg this]
    exact hyes _ _
end Go.Proofs.Ytochgkepaleblaa.Pure
