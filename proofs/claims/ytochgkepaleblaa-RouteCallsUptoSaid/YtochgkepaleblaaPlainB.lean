/- The printed 'lives' and 'strokes': what they answer. -/
import Derived.Test.YtochgkepaleblaaLivesT
import Derived.Test.YtochgkepaleblaaPlain
set_option linter.unusedVariables false
namespace Go.Proofs.Ytochgkepaleblaa.Plain
open Go.RowKit Go.Proofs.Ytochgkepaleblaa.Base Go.Proofs.Ytochgkepaleblaa.Lives Go.Proofs.Ytochgkepaleblaa.Hand Go.Proofs.YtochgkepaleblaaW.PrintWords Go.Proofs.YtochgkepaleblaaW.PrintLast

/-- Parse at bytes that are written out. -/
theorem parse_at (l : List UInt8) (r : List (List UInt8) × Int) (hl : l.length ≤ 140737488351232) (h : parse l = r) : Ev (fun k => route_Parse.f k (mk l)) (up r) := by
  subst h
  exact parse_ev (mk l) hl

set_option maxRecDepth 100000 in
theorem lives_ev : Ev (fun k => undercroftlaw20_lives.f k) true := by
  unfold undercroftlaw20_lives.f
  refine Ev.bind (parse_at [47, 97, 47, 47, 98, 47] ([[97], [98]], 0) (by decide) (by decide)) ?_
  refine Ev.bind (parse_at [97, 47, 98] ([], 4) (by decide) (by decide)) ?_
  refine Ev.bind (parse_at [47, 97, 98, 99, 100, 101, 102, 103, 104, 105, 106, 107, 108, 109, 110, 111] ([], 12) (by decide) (by decide)) ?_
  simp only [up, if_true]
  refine Ev.bind (same_ev [[97], [98]] [[97], [98]] (by decide)) ?_
  simp only [decide_true, if_true]
  have h1 := join_f [[97], [98]] (by decide) (by decide)
  have h2 := join_f [] (by decide) (by decide)
  have h3 := special_f [] (by decide)
  have h4 := special_f [[46, 46], [97]] (by decide)
  simp only [List.map_cons, List.map_nil] at h1 h2 h3 h4
  have e1 : route_Join.f [(⟨#[97]⟩ : ByteArray), (⟨#[98]⟩ : ByteArray)] = some (mk (path [[97], [98]])) := h1
  have e4 : route_Special.f [(⟨#[46, 46]⟩ : ByteArray), (⟨#[97]⟩ : ByteArray)] = some (special [[46, 46], [97]]) := h4
  rw [e1]
  simp only [Option.bind_some]
  rw [toList_mk, if_pos (by decide), h2]
  simp only [Option.bind_some]
  rw [toList_mk, if_pos (by decide), h3]
  simp only [Option.bind_some]
  rw [if_pos (by decide), e4]
  exact Ev.now _

theorem strokes_ev (n : Nat) (hn : n ≤ 9000000000000000000) : Ev (fun k => undercroftlaw20_strokes.f k (n : Int)) (mk (List.replicate n 47)) := by
  have key : ∀ d i, i + d = n → Ev (fun k => undercroftlaw20_strokes.l0 k (n : Int) (mk (List.replicate i 47)) (i : Int)) (mk (List.replicate n 47)) := by
    intro d
    induction d with
    | zero =>
      intro i hi
      refine Ev.step (f := fun _ => some (mk (List.replicate n 47))) (fun k => ?_) (Ev.now _)
      simp only [undercroftlaw20_strokes.l0]
      rw [if_neg (by omega), show i = n from by omega]
    | succ d ih =>
      intro i hi
      refine Ev.step (f := fun k => undercroftlaw20_strokes.l0 k (n : Int) (mk (List.replicate (i + 1) 47)) ((i + 1 : Nat) : Int)) (fun k => ?_) (ih (i + 1) (by omega))
      simp only [undercroftlaw20_strokes.l0]
      rw [if_pos (by omega), if_pos (by rw [mk_size, List.length_replicate]; omega), wrap_small (by omega) (by omega)]
      have e : mk (List.replicate i 47) ++ (⟨#[47]⟩ : ByteArray) = mk (List.replicate (i + 1) 47) := by
        rw [show (⟨#[47]⟩ : ByteArray) = mk [47] from rfl, mk_app, List.replicate_succ']
      rw [e]
      rfl
  exact key n 0 (by omega)
end Go.Proofs.Ytochgkepaleblaa.Plain
namespace Go.Proofs.Ytochgkepaleblaa.Hand
open Go.RowKit Go.Proofs.YtochgkepaleblaaW.PrintWords Go.Proofs.YtochgkepaleblaaW.PrintLast Go.Proofs.YtochgkepaleblaaW.PrintMore
/-- What lives answers. -/
def undercroftlaw20_lives.f : Option Bool := some true
theorem undercroftlaw20_lives.calls (r : Bool) (w : World) (h : undercroftlaw20_lives.f = some r) :
    Calls Try.prog 25 #[] w fun e w' => e = .returned (.bool r) ∧ Below w.heap.size w w' := by
  obtain rfl := Option.some.inj h
  obtain ⟨k, hk⟩ := Plain.lives_ev.rounds
  exact Lives.undercroftlaw20_lives.truth k true w hk rfl
end Go.Proofs.Ytochgkepaleblaa.Hand
