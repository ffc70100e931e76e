-- Written by a program of this session (printhand.sh) over the translation; Lean checks it.
import Derived.Test.YtochgkepaleblaaCallsx0
namespace Go.Proofs.Ytochgkepaleblaa.Calls
open Go.Proofs.Ytochgkepaleblaa.Base
open Go.Proofs.Ytochgkepaleblaa.Hand
open Go.RowKit Go.Proofs.YtochgkepaleblaaW.PrintWords Go.Proofs.YtochgkepaleblaaW.PrintLast Go.Proofs.YtochgkepaleblaaW.PrintMore
attribute [local go_sem] max2_int min2_int max_two min_two max_three min_three max_four min_four   -- for this text's walks alone
set_option linter.unusedVariables false
set_option linter.unusedSimpArgs false

-- by hand: function 15 (route_Parse)

-- by hand: function 16 (undercroftref20_Parse)

-- by hand: function 22 (undercroftkit_CopyTexts)

-- by hand: function 41 (undercroftkit_markTexts)

-- by hand: function 17 (undercroftkit_LentTexts)

-- NOT PRINTED: function 53 (abi_NoEscape)

-- NOT PRINTED: function 51 (strings_Builder_copyCheck)

-- NOT PRINTED: function 54 (bytealg_MakeNoZero)

-- NOT PRINTED: function 52 (strings_Builder_grow)

-- NOT PRINTED: function 48 (strings_Builder_Grow)

-- NOT PRINTED: function 49 (strings_Builder_WriteString)

-- NOT PRINTED: function 50 (strings_Builder_String)

-- NOT PRINTED: function 42 (strings_Join)

-- by hand: function 18 (route_Join)

-- by hand: function 19 (route_Special)

-- by hand: function 20 (undercroftkit_SameTexts)

-- by hand: function 21 (undercroftkit_KeptTexts)

-- by hand: function 23 (undercroftref20_Join)

-- by hand: function 24 (undercroftref20_Special)

-- by hand: function 25 (undercroftlaw20_lives)

-- by hand: function 26 (undercroftkit_ApartTexts)

/-! ### undercroftlaw20_RouteCalls: function 4 -/
mutual
def undercroftlaw20_RouteCalls.j0 : Nat → List ByteArray → List ByteArray → List ByteArray → List ByteArray → ByteArray → Bool → Bool → Option (Bool)
  | 0, _, _, _, _, _, _, _ => none
  | k + 1, x1, x5, x7, x12, x13, x14, x71 => if x71 = true then (some false) else (undercroftlaw20_RouteCalls.l0 k x1 x5 x7 x12 x13 x14 0)
def undercroftlaw20_RouteCalls.l0 : Nat → List ByteArray → List ByteArray → List ByteArray → List ByteArray → ByteArray → Bool → Int → Option (Bool)
  | 0, _, _, _, _, _, _, _ => none
  | k + 1, x1, x5, x7, x12, x13, x14, x15 => if x15 < (x12.length : Int) then (if 0 ≤ x15 then (if (rdOf ByteArray.empty x12 x15).size + 1 ≤ 9223372036854775807 then (undercroftlaw20_RouteCalls.l0 k x1 x5 x7 (x12.set (x15 : Int).toNat ((rdOf ByteArray.empty x12 x15) ++ (⟨#[120]⟩ : ByteArray))) x13 x14 (wrap64 (x15 + 1))) else (none)) else (none)) else ((undercroftkit_CopyTexts.f x12).bind fun t127 => ((route_Join.f x12).bind fun t130 => ((undercroftref20_Join.f k t127).bind fun t131 => (if t130.toList = t131.toList then ((route_Special.f x12).bind fun t132 => ((undercroftref20_Special.f t127).bind fun t133 => (undercroftlaw20_RouteCalls.j2 k x1 x5 x7 x13 x14 (t132 == t133)))) else (undercroftlaw20_RouteCalls.j2 k x1 x5 x7 x13 x14 false)))))
def undercroftlaw20_RouteCalls.j2 : Nat → List ByteArray → List ByteArray → List ByteArray → ByteArray → Bool → Bool → Option (Bool)
  | 0, _, _, _, _, _, _ => none
  | k + 1, x1, x5, x7, x13, x14, x17 => (undercroftlaw20_lives.f).bind fun t134 => (if t134 = true then (if x17 = true then ((undercroftref20_Join.f k x1).bind fun t135 => (if x13.toList = t135.toList then ((undercroftref20_Special.f x1).bind fun t136 => (if (x14 == t136) = true then ((undercroftkit_ApartTexts.f (([x5, x7] : List (List ByteArray)))).bind fun t140 => (some t140)) else (some false))) else (some false))) else (some false)) else (some false))
end
def undercroftlaw20_RouteCalls.f (k : Nat) (a0 : ByteArray) (l1 : List ByteArray) : Option (Bool) := if (l1.length : Int) > 300 then (some true) else ((route_Parse.f k a0).bind fun bt102 => ((route_Parse.f k a0).bind fun bt106 => ((undercroftref20_Parse.f k a0).bind fun bt110 => ((undercroftkit_LentTexts.f k l1).bind fun t114 => (if 0 ≤ (l1.length : Int) then (if (l1.length : Int) ≤ (t114.length : Int) then ((some (t114.take ((l1.length : Int) : Int).toNat : List ByteArray)).bind fun y117 => ((route_Join.f y117).bind fun t120 => ((route_Special.f y117).bind fun t121 => (if bt102.2 = bt110.2 then (if bt106.2 = bt110.2 then ((undercroftkit_SameTexts.f k bt102.1 bt110.1).bind fun t122 => (if t122 = true then ((undercroftkit_SameTexts.f k bt106.1 bt110.1).bind fun t123 => (if t123 = true then ((undercroftkit_KeptTexts.f k t114 l1).bind fun t124 => (undercroftlaw20_RouteCalls.j0 k l1 bt102.1 bt106.1 y117 t120 t121 (!t124))) else (undercroftlaw20_RouteCalls.j0 k l1 bt102.1 bt106.1 y117 t120 t121 true))) else (undercroftlaw20_RouteCalls.j0 k l1 bt102.1 bt106.1 y117 t120 t121 true))) else (undercroftlaw20_RouteCalls.j0 k l1 bt102.1 bt106.1 y117 t120 t121 true)) else (undercroftlaw20_RouteCalls.j0 k l1 bt102.1 bt106.1 y117 t120 t121 true))))) else (none)) else (none))))))
theorem undercroftlaw20_RouteCalls.mono_l : ∀ k, (∀ y0 y1 y2 y3 y4 y5 y6, LeO (undercroftlaw20_RouteCalls.j0 k y0 y1 y2 y3 y4 y5 y6) (undercroftlaw20_RouteCalls.j0 (k + 1) y0 y1 y2 y3 y4 y5 y6)) ∧ (∀ y0 y1 y2 y3 y4 y5 y6, LeO (undercroftlaw20_RouteCalls.l0 k y0 y1 y2 y3 y4 y5 y6) (undercroftlaw20_RouteCalls.l0 (k + 1) y0 y1 y2 y3 y4 y5 y6)) ∧ (∀ y0 y1 y2 y3 y4 y5, LeO (undercroftlaw20_RouteCalls.j2 k y0 y1 y2 y3 y4 y5) (undercroftlaw20_RouteCalls.j2 (k + 1) y0 y1 y2 y3 y4 y5))
  | 0 => ⟨fun _ _ _ _ _ _ _ r h => by simp [undercroftlaw20_RouteCalls.j0] at h, fun _ _ _ _ _ _ _ r h => by simp [undercroftlaw20_RouteCalls.l0] at h, fun _ _ _ _ _ _ r h => by simp [undercroftlaw20_RouteCalls.j2] at h⟩
  | k + 1 => by
    obtain ⟨ih0, ih1, ih2⟩ := undercroftlaw20_RouteCalls.mono_l k
    refine ⟨?_, ?_, ?_⟩
    · intro y0 y1 y2 y3 y4 y5 y6
      unfold undercroftlaw20_RouteCalls.j0
      repeat' first
      | (with_reducible exact ih0 _ _ _ _ _ _ _)
      | (with_reducible exact ih1 _ _ _ _ _ _ _)
      | (with_reducible exact ih2 _ _ _ _ _ _)
      | (with_reducible exact route_Parse.mono _ _)
      | (with_reducible exact undercroftkit_KeptTexts.mono _ _ _)
      | (with_reducible exact undercroftkit_LentTexts.mono _ _)
      | (with_reducible exact undercroftkit_SameTexts.mono _ _ _)
      | (with_reducible exact undercroftref20_Join.mono _ _)
      | (with_reducible exact undercroftref20_Parse.mono _ _)
      | (with_reducible exact LeO.refl _)
      | (with_reducible exact LeO.none _)
      | (with_reducible refine LeO.ite ?_ ?_)
      | (with_reducible refine LeO.bind ?_ (fun _ => ?_))
      | exact ih0 _ _ _ _ _ _ _
      | exact ih1 _ _ _ _ _ _ _
      | exact ih2 _ _ _ _ _ _
      | exact route_Parse.mono _ _
      | exact undercroftkit_KeptTexts.mono _ _ _
      | exact undercroftkit_LentTexts.mono _ _
      | exact undercroftkit_SameTexts.mono _ _ _
      | exact undercroftref20_Join.mono _ _
      | exact undercroftref20_Parse.mono _ _
      | exact LeO.none _
      | refine LeO.ite ?_ ?_
      | refine LeO.bind ?_ (fun _ => ?_)
    · intro y0 y1 y2 y3 y4 y5 y6
      unfold undercroftlaw20_RouteCalls.l0
      repeat' first
      | (with_reducible exact ih0 _ _ _ _ _ _ _)
      | (with_reducible exact ih1 _ _ _ _ _ _ _)
      | (with_reducible exact ih2 _ _ _ _ _ _)
      | (with_reducible exact route_Parse.mono _ _)
      | (with_reducible exact undercroftkit_KeptTexts.mono _ _ _)
      | (with_reducible exact undercroftkit_LentTexts.mono _ _)
      | (with_reducible exact undercroftkit_SameTexts.mono _ _ _)
      | (with_reducible exact undercroftref20_Join.mono _ _)
      | (with_reducible exact undercroftref20_Parse.mono _ _)
      | (with_reducible exact LeO.refl _)
      | (with_reducible exact LeO.none _)
      | (with_reducible refine LeO.ite ?_ ?_)
      | (with_reducible refine LeO.bind ?_ (fun _ => ?_))
      | exact ih0 _ _ _ _ _ _ _
      | exact ih1 _ _ _ _ _ _ _
      | exact ih2 _ _ _ _ _ _
      | exact route_Parse.mono _ _
      | exact undercroftkit_KeptTexts.mono _ _ _
      | exact undercroftkit_LentTexts.mono _ _
      | exact undercroftkit_SameTexts.mono _ _ _
      | exact undercroftref20_Join.mono _ _
      | exact undercroftref20_Parse.mono _ _
      | exact LeO.none _
      | refine LeO.ite ?_ ?_
      | refine LeO.bind ?_ (fun _ => ?_)
    · intro y0 y1 y2 y3 y4 y5
      unfold undercroftlaw20_RouteCalls.j2
      repeat' first
      | (with_reducible exact ih0 _ _ _ _ _ _ _)
      | (with_reducible exact ih1 _ _ _ _ _ _ _)
      | (with_reducible exact ih2 _ _ _ _ _ _)
      | (with_reducible exact route_Parse.mono _ _)
      | (with_reducible exact undercroftkit_KeptTexts.mono _ _ _)
      | (with_reducible exact undercroftkit_LentTexts.mono _ _)
      | (with_reducible exact undercroftkit_SameTexts.mono _ _ _)
      | (with_reducible exact undercroftref20_Join.mono _ _)
      | (with_reducible exact undercroftref20_Parse.mono _ _)
      | (with_reducible exact LeO.refl _)
      | (with_reducible exact LeO.none _)
      | (with_reducible refine LeO.ite ?_ ?_)
      | (with_reducible refine LeO.bind ?_ (fun _ => ?_))
      | exact ih0 _ _ _ _ _ _ _
      | exact ih1 _ _ _ _ _ _ _
      | exact ih2 _ _ _ _ _ _
      | exact route_Parse.mono _ _
      | exact undercroftkit_KeptTexts.mono _ _ _
      | exact undercroftkit_LentTexts.mono _ _
      | exact undercroftkit_SameTexts.mono _ _ _
      | exact undercroftref20_Join.mono _ _
      | exact undercroftref20_Parse.mono _ _
      | exact LeO.none _
      | refine LeO.ite ?_ ?_
      | refine LeO.bind ?_ (fun _ => ?_)
theorem undercroftlaw20_RouteCalls.mono : ∀ a0 a1 k, LeO (undercroftlaw20_RouteCalls.f k a0 a1) (undercroftlaw20_RouteCalls.f (k + 1) a0 a1) := by
  intro a0 a1 k
  obtain ⟨ih0, ih1, ih2⟩ := undercroftlaw20_RouteCalls.mono_l k
  unfold undercroftlaw20_RouteCalls.f
  repeat' first
      | (with_reducible exact ih0 _ _ _ _ _ _ _)
      | (with_reducible exact ih1 _ _ _ _ _ _ _)
      | (with_reducible exact ih2 _ _ _ _ _ _)
      | (with_reducible exact route_Parse.mono _ _)
      | (with_reducible exact undercroftkit_KeptTexts.mono _ _ _)
      | (with_reducible exact undercroftkit_LentTexts.mono _ _)
      | (with_reducible exact undercroftkit_SameTexts.mono _ _ _)
      | (with_reducible exact undercroftref20_Join.mono _ _)
      | (with_reducible exact undercroftref20_Parse.mono _ _)
      | (with_reducible exact LeO.refl _)
      | (with_reducible exact LeO.none _)
      | (with_reducible refine LeO.ite ?_ ?_)
      | (with_reducible refine LeO.bind ?_ (fun _ => ?_))
      | exact ih0 _ _ _ _ _ _ _
      | exact ih1 _ _ _ _ _ _ _
      | exact ih2 _ _ _ _ _ _
      | exact route_Parse.mono _ _
      | exact undercroftkit_KeptTexts.mono _ _ _
      | exact undercroftkit_LentTexts.mono _ _
      | exact undercroftkit_SameTexts.mono _ _ _
      | exact undercroftref20_Join.mono _ _
      | exact undercroftref20_Parse.mono _ _
      | exact LeO.none _
      | refine LeO.ite ?_ ?_
      | refine LeO.bind ?_ (fun _ => ?_)
set_option maxHeartbeats 8000000 in
set_option maxRecDepth 100000 in
theorem undercroftlaw20_RouteCalls.calls (k : Nat) (a0 : ByteArray) (A1 : Option Addr) (c1 : Nat) (l1 : List ByteArray) (r : Bool) (w : World) (hr1 : Kd.C Kd.string w A1 l1.length l1) (hc1 : l1.length ≤ c1) (h : undercroftlaw20_RouteCalls.f k a0 l1 = some r) (hr_ : r = true) :
    Calls Try.prog 4 #[.string a0, .slice A1 l1.length c1] w fun e w' => e = .returned (.bool r) ∧ Below w.heap.size w w' := by
  have Hr_ := Aside0.mk hr_
  clear hr_
  have HR1 := Aside0.mk hr1
  have HC1 := Aside0.mk hc1
  clear hr1 hc1
  have HB := Aside0.mk (Below.refl w.heap.size w)
  have H : (if (l1.length : Int) > 300 then (some true) else ((route_Parse.f k a0).bind fun bt102 => ((route_Parse.f k a0).bind fun bt106 => ((undercroftref20_Parse.f k a0).bind fun bt110 => ((undercroftkit_LentTexts.f k l1).bind fun t114 => (if 0 ≤ (l1.length : Int) then (if (l1.length : Int) ≤ (t114.length : Int) then ((some (t114.take ((l1.length : Int) : Int).toNat : List ByteArray)).bind fun y117 => ((route_Join.f y117).bind fun t120 => ((route_Special.f y117).bind fun t121 => (if bt102.2 = bt110.2 then (if bt106.2 = bt110.2 then ((undercroftkit_SameTexts.f k bt102.1 bt110.1).bind fun t122 => (if t122 = true then ((undercroftkit_SameTexts.f k bt106.1 bt110.1).bind fun t123 => (if t123 = true then ((undercroftkit_KeptTexts.f k t114 l1).bind fun t124 => (undercroftlaw20_RouteCalls.j0 k l1 bt102.1 bt106.1 y117 t120 t121 (!t124))) else (undercroftlaw20_RouteCalls.j0 k l1 bt102.1 bt106.1 y117 t120 t121 true))) else (undercroftlaw20_RouteCalls.j0 k l1 bt102.1 bt106.1 y117 t120 t121 true))) else (undercroftlaw20_RouteCalls.j0 k l1 bt102.1 bt106.1 y117 t120 t121 true)) else (undercroftlaw20_RouteCalls.j0 k l1 bt102.1 bt106.1 y117 t120 t121 true))))) else (none)) else (none))))))) = some r := h
  clear h
  by_cases c3 : (l1.length : Int) > 300
  · rw [if_pos c3] at H
    have c3b0 : decide (300 < (l1.length : Int)) = true := decide_eq_true c3
    have c3b1 : decide (300 < l1.length) = true := decide_eq_true (by omega)
    clear c3
    obtain rfl := Option.some.inj H
    first
    | exact absurd Hr_.out (by decide)
    | skip
      go_enter Try.func4, Try.ntmps4
      go_wp2
      go_ret
      exact ⟨by first | rfl | (simp [errW_none, errW_some] <;> rfl) | (simp [*, errW_none, errW_some] <;> rfl), by repeat (first | (with_reducible first | exact HB.out | apply below_alloc | apply pw_below_drewN | apply below_drew1) | exact HB.out)⟩
  · rw [if_neg c3] at H
    have c3b0 : decide (300 < (l1.length : Int)) = false := decide_eq_false c3
    have c3b1 : decide (300 < l1.length) = false := decide_eq_false (by omega)
    clear c3
    replace H := Option.bind_eq_some_iff.mp H
    obtain ⟨⟨t102, t103⟩, A40, H⟩ := H
    replace H : ((route_Parse.f k a0).bind fun bt106 => ((undercroftref20_Parse.f k a0).bind fun bt110 => ((undercroftkit_LentTexts.f k l1).bind fun t114 => (if 0 ≤ (l1.length : Int) then (if (l1.length : Int) ≤ (t114.length : Int) then ((some (t114.take ((l1.length : Int) : Int).toNat : List ByteArray)).bind fun y117 => ((route_Join.f y117).bind fun t120 => ((route_Special.f y117).bind fun t121 => (if t103 = bt110.2 then (if bt106.2 = bt110.2 then ((undercroftkit_SameTexts.f k t102 bt110.1).bind fun t122 => (if t122 = true then ((undercroftkit_SameTexts.f k bt106.1 bt110.1).bind fun t123 => (if t123 = true then ((undercroftkit_KeptTexts.f k t114 l1).bind fun t124 => (undercroftlaw20_RouteCalls.j0 k l1 t102 bt106.1 y117 t120 t121 (!t124))) else (undercroftlaw20_RouteCalls.j0 k l1 t102 bt106.1 y117 t120 t121 true))) else (undercroftlaw20_RouteCalls.j0 k l1 t102 bt106.1 y117 t120 t121 true))) else (undercroftlaw20_RouteCalls.j0 k l1 t102 bt106.1 y117 t120 t121 true)) else (undercroftlaw20_RouteCalls.j0 k l1 t102 bt106.1 y117 t120 t121 true))))) else (none)) else (none))))) = some r := H
    have A4 := Aside0.mk A40
    clear A40
    replace H := Option.bind_eq_some_iff.mp H
    obtain ⟨⟨t106, t107⟩, A50, H⟩ := H
    replace H : ((undercroftref20_Parse.f k a0).bind fun bt110 => ((undercroftkit_LentTexts.f k l1).bind fun t114 => (if 0 ≤ (l1.length : Int) then (if (l1.length : Int) ≤ (t114.length : Int) then ((some (t114.take ((l1.length : Int) : Int).toNat : List ByteArray)).bind fun y117 => ((route_Join.f y117).bind fun t120 => ((route_Special.f y117).bind fun t121 => (if t103 = bt110.2 then (if t107 = bt110.2 then ((undercroftkit_SameTexts.f k t102 bt110.1).bind fun t122 => (if t122 = true then ((undercroftkit_SameTexts.f k t106 bt110.1).bind fun t123 => (if t123 = true then ((undercroftkit_KeptTexts.f k t114 l1).bind fun t124 => (undercroftlaw20_RouteCalls.j0 k l1 t102 t106 y117 t120 t121 (!t124))) else (undercroftlaw20_RouteCalls.j0 k l1 t102 t106 y117 t120 t121 true))) else (undercroftlaw20_RouteCalls.j0 k l1 t102 t106 y117 t120 t121 true))) else (undercroftlaw20_RouteCalls.j0 k l1 t102 t106 y117 t120 t121 true)) else (undercroftlaw20_RouteCalls.j0 k l1 t102 t106 y117 t120 t121 true))))) else (none)) else (none)))) = some r := H
    have A5 := Aside0.mk A50
    clear A50
    replace H := Option.bind_eq_some_iff.mp H
    obtain ⟨⟨t110, t111⟩, A60, H⟩ := H
    replace H : ((undercroftkit_LentTexts.f k l1).bind fun t114 => (if 0 ≤ (l1.length : Int) then (if (l1.length : Int) ≤ (t114.length : Int) then ((some (t114.take ((l1.length : Int) : Int).toNat : List ByteArray)).bind fun y117 => ((route_Join.f y117).bind fun t120 => ((route_Special.f y117).bind fun t121 => (if t103 = t111 then (if t107 = t111 then ((undercroftkit_SameTexts.f k t102 t110).bind fun t122 => (if t122 = true then ((undercroftkit_SameTexts.f k t106 t110).bind fun t123 => (if t123 = true then ((undercroftkit_KeptTexts.f k t114 l1).bind fun t124 => (undercroftlaw20_RouteCalls.j0 k l1 t102 t106 y117 t120 t121 (!t124))) else (undercroftlaw20_RouteCalls.j0 k l1 t102 t106 y117 t120 t121 true))) else (undercroftlaw20_RouteCalls.j0 k l1 t102 t106 y117 t120 t121 true))) else (undercroftlaw20_RouteCalls.j0 k l1 t102 t106 y117 t120 t121 true)) else (undercroftlaw20_RouteCalls.j0 k l1 t102 t106 y117 t120 t121 true))))) else (none)) else (none))) = some r := H
    have A6 := Aside0.mk A60
    clear A60
    replace H := Option.bind_eq_some_iff.mp H
    obtain ⟨t114, A70, H⟩ := H
    replace H : (if 0 ≤ (l1.length : Int) then (if (l1.length : Int) ≤ (t114.length : Int) then ((some (t114.take ((l1.length : Int) : Int).toNat : List ByteArray)).bind fun y117 => ((route_Join.f y117).bind fun t120 => ((route_Special.f y117).bind fun t121 => (if t103 = t111 then (if t107 = t111 then ((undercroftkit_SameTexts.f k t102 t110).bind fun t122 => (if t122 = true then ((undercroftkit_SameTexts.f k t106 t110).bind fun t123 => (if t123 = true then ((undercroftkit_KeptTexts.f k t114 l1).bind fun t124 => (undercroftlaw20_RouteCalls.j0 k l1 t102 t106 y117 t120 t121 (!t124))) else (undercroftlaw20_RouteCalls.j0 k l1 t102 t106 y117 t120 t121 true))) else (undercroftlaw20_RouteCalls.j0 k l1 t102 t106 y117 t120 t121 true))) else (undercroftlaw20_RouteCalls.j0 k l1 t102 t106 y117 t120 t121 true)) else (undercroftlaw20_RouteCalls.j0 k l1 t102 t106 y117 t120 t121 true))))) else (none)) else (none)) = some r := H
    have A7 := Aside0.mk A70
    clear A70
    by_cases c8 : 0 ≤ (l1.length : Int)
    · rw [if_pos c8] at H
      have c8b0 := eq_true c8
      have c8b1 : decide (0 ≤ (l1.length : Int)) = true := decide_eq_true c8
      clear c8
      by_cases c9 : (l1.length : Int) ≤ (t114.length : Int)
      · rw [if_pos c9] at H
        have c9b0 := eq_true c9
        have c9b1 : decide ((l1.length : Int) ≤ (t114.length : Int)) = true := decide_eq_true c9
        clear c9
        obtain ⟨y117, hy117⟩ : ∃ y_ : List ByteArray, y_ = (t114.take ((l1.length : Int) : Int).toNat) := ⟨_, rfl⟩
        replace H : ((route_Join.f y117).bind fun t120 => ((route_Special.f y117).bind fun t121 => (if t103 = t111 then (if t107 = t111 then ((undercroftkit_SameTexts.f k t102 t110).bind fun t122 => (if t122 = true then ((undercroftkit_SameTexts.f k t106 t110).bind fun t123 => (if t123 = true then ((undercroftkit_KeptTexts.f k t114 l1).bind fun t124 => (undercroftlaw20_RouteCalls.j0 k l1 t102 t106 y117 t120 t121 (!t124))) else (undercroftlaw20_RouteCalls.j0 k l1 t102 t106 y117 t120 t121 true))) else (undercroftlaw20_RouteCalls.j0 k l1 t102 t106 y117 t120 t121 true))) else (undercroftlaw20_RouteCalls.j0 k l1 t102 t106 y117 t120 t121 true)) else (undercroftlaw20_RouteCalls.j0 k l1 t102 t106 y117 t120 t121 true)))) = some r := by first | (rw [hy117]; with_reducible exact H) | (have H2_ := (Option.bind_some _ _).symm.trans H; rw [hy117]; with_reducible exact H2_) | (have H2_ := (Option.bind_some _ _).symm.trans H; with_reducible exact H2_) | with_reducible exact H | (rw [hy117]; exact H) | exact H
        have Ny117 := Aside0.mk hy117
        clear hy117
        replace H := Option.bind_eq_some_iff.mp H
        obtain ⟨t120, A100, H⟩ := H
        replace H : ((route_Special.f y117).bind fun t121 => (if t103 = t111 then (if t107 = t111 then ((undercroftkit_SameTexts.f k t102 t110).bind fun t122 => (if t122 = true then ((undercroftkit_SameTexts.f k t106 t110).bind fun t123 => (if t123 = true then ((undercroftkit_KeptTexts.f k t114 l1).bind fun t124 => (undercroftlaw20_RouteCalls.j0 k l1 t102 t106 y117 t120 t121 (!t124))) else (undercroftlaw20_RouteCalls.j0 k l1 t102 t106 y117 t120 t121 true))) else (undercroftlaw20_RouteCalls.j0 k l1 t102 t106 y117 t120 t121 true))) else (undercroftlaw20_RouteCalls.j0 k l1 t102 t106 y117 t120 t121 true)) else (undercroftlaw20_RouteCalls.j0 k l1 t102 t106 y117 t120 t121 true))) = some r := H
        have A10 := Aside0.mk A100
        clear A100
        replace H := Option.bind_eq_some_iff.mp H
        obtain ⟨t121, A110, H⟩ := H
        replace H : (if t103 = t111 then (if t107 = t111 then ((undercroftkit_SameTexts.f k t102 t110).bind fun t122 => (if t122 = true then ((undercroftkit_SameTexts.f k t106 t110).bind fun t123 => (if t123 = true then ((undercroftkit_KeptTexts.f k t114 l1).bind fun t124 => (undercroftlaw20_RouteCalls.j0 k l1 t102 t106 y117 t120 t121 (!t124))) else (undercroftlaw20_RouteCalls.j0 k l1 t102 t106 y117 t120 t121 true))) else (undercroftlaw20_RouteCalls.j0 k l1 t102 t106 y117 t120 t121 true))) else (undercroftlaw20_RouteCalls.j0 k l1 t102 t106 y117 t120 t121 true)) else (undercroftlaw20_RouteCalls.j0 k l1 t102 t106 y117 t120 t121 true)) = some r := H
        have A11 := Aside0.mk A110
        clear A110
        have HC12 := Aside0.mk H
        clear H
        go_enter Try.func4, Try.ntmps4
        go_upto_region 10 with (first | ((with_reducible refine gate_callee (f := 15) rfl ?_); refine goesL_ (some 23) rfl rfl Try.func15 (by kernel_rfl) rfl #[.string a0] rfl (by (try simp only [List.map_toArray, List.map_cons, List.map_nil]); first | done | rfl | (simp only [List.length_drop, List.length_take]; rfl)) ?_; (with_reducible refine (route_Parse.calls k a0 t102 t103 _ A4.out).mono ?_); rintro e w13 ⟨v104, rfl, ho0, hb⟩; refine ⟨_, rfl, ?_⟩; have n0_ := Aside0.mk (Kd.R_lower ho0 (below_size (by repeat (first | (with_reducible first | exact HB.out | apply below_alloc | apply pw_below_drewN | apply below_drew1) | exact HB.out)))); have n1_ := Aside0.mk (below_step (by repeat (first | (with_reducible first | exact HB.out | apply below_alloc | apply pw_below_drewN | apply below_drew1) | exact HB.out)) hb); clear HB; have HO105 := n0_; have HB := n1_; clear n0_ n1_; (try clear hb); (try clear hb2); (try clear hk); (try clear hi); (try clear ho0)) | ((with_reducible refine gate_callee (f := 15) rfl ?_); refine goesL_ (some 28) rfl rfl Try.func15 (by kernel_rfl) rfl #[.string a0] rfl (by (try simp only [List.map_toArray, List.map_cons, List.map_nil]); first | done | rfl | (simp only [List.length_drop, List.length_take]; rfl)) ?_; (with_reducible refine (route_Parse.calls k a0 t106 t107 _ A5.out).mono ?_); rintro e w14 ⟨v108, rfl, ho0, hb⟩; refine ⟨_, rfl, ?_⟩; have n0_ := Aside0.mk (Kd.R_elder' (by (with_reducible repeat (first | apply Kd.R_alloc | apply Kd.R_drewN | apply Kd.R_drew)); exact HO105.out) (Kd.R_base ho0) hb); have n1_ := Aside0.mk (Kd.R_lower (Kd.R_new' ho0 (Kd.R_lt (by (with_reducible repeat (first | apply Kd.R_alloc | apply Kd.R_drewN | apply Kd.R_drew)); exact HO105.out))) (below_size (by repeat (first | (with_reducible first | exact HB.out | apply below_alloc | apply pw_below_drewN | apply below_drew1) | exact HB.out)))); have n2_ := Aside0.mk (below_step (by repeat (first | (with_reducible first | exact HB.out | apply below_alloc | apply pw_below_drewN | apply below_drew1) | exact HB.out)) hb); clear HO105; clear HB; have HO105 := n0_; have HO109 := n1_; have HB := n2_; clear n0_ n1_ n2_; (try clear hb); (try clear hb2); (try clear hk); (try clear hi); (try clear ho0)) | ((with_reducible refine gate_callee (f := 16) rfl ?_); refine goesL_ (some 33) rfl rfl Try.func16 (by kernel_rfl) rfl #[.string a0] rfl (by (try simp only [List.map_toArray, List.map_cons, List.map_nil]); first | done | rfl | (simp only [List.length_drop, List.length_take]; rfl)) ?_; (with_reducible refine (undercroftref20_Parse.calls k a0 t110 t111 _ A6.out).mono ?_); rintro e w15 ⟨v112, rfl, ho0, hb⟩; refine ⟨_, rfl, ?_⟩; have n0_ := Aside0.mk (Kd.R_elder' (by (with_reducible repeat (first | apply Kd.R_alloc | apply Kd.R_drewN | apply Kd.R_drew)); exact HO105.out) (Kd.R_base ho0) hb); have n1_ := Aside0.mk (Kd.R_elder' (by (with_reducible repeat (first | apply Kd.R_alloc | apply Kd.R_drewN | apply Kd.R_drew)); exact HO109.out) (Kd.R_base ho0) hb); have n2_ := Aside0.mk (Kd.R_lower (Kd.R_new' (Kd.R_new' ho0 (Kd.R_lt (by (with_reducible repeat (first | apply Kd.R_alloc | apply Kd.R_drewN | apply Kd.R_drew)); exact HO105.out))) (Kd.R_lt (by (with_reducible repeat (first | apply Kd.R_alloc | apply Kd.R_drewN | apply Kd.R_drew)); exact HO109.out))) (below_size (by repeat (first | (with_reducible first | exact HB.out | apply below_alloc | apply pw_below_drewN | apply below_drew1) | exact HB.out)))); have n3_ := Aside0.mk (below_step (by repeat (first | (with_reducible first | exact HB.out | apply below_alloc | apply pw_below_drewN | apply below_drew1) | exact HB.out)) hb); clear HO105; clear HO109; clear HB; have HO105 := n0_; have HO109 := n1_; have HO113 := n2_; have HB := n3_; clear n0_ n1_ n2_ n3_; (try clear hb); (try clear hb2); (try clear hk); (try clear hi); (try clear ho0)) | ((with_reducible refine gate_callee (f := 17) rfl ?_); refine goesL_ (some 37) rfl rfl Try.func17 (by kernel_rfl) rfl #[.slice A1 l1.length c1] rfl (by (try simp only [List.map_toArray, List.map_cons, List.map_nil]); first | done | rfl | (simp only [List.length_drop, List.length_take]; rfl)) ?_; (with_reducible refine (undercroftkit_LentTexts.calls k _ _ l1 t114 _ ?side1 ?side2 A7.out).mono ?_); (case side1 => repeat (first | exact (Kd.C_below HR1.out HB.out) | (with_reducible refine Kd.C_alloc ?_ _) | (with_reducible refine Kd.C_drewN ?_ _) | (with_reducible refine Kd.C_drew ?_))); (case side2 => exact HC1.out); rintro e w16 ⟨v115, rfl, ho0, hb⟩; refine ⟨_, rfl, ?_⟩; have n0_ := Aside0.mk (Kd.R_elder' (by (with_reducible repeat (first | apply Kd.R_alloc | apply Kd.R_drewN | apply Kd.R_drew)); exact HO105.out) (Kd.R_base ho0) hb); have n1_ := Aside0.mk (Kd.R_elder' (by (with_reducible repeat (first | apply Kd.R_alloc | apply Kd.R_drewN | apply Kd.R_drew)); exact HO109.out) (Kd.R_base ho0) hb); have n2_ := Aside0.mk (Kd.R_elder' (by (with_reducible repeat (first | apply Kd.R_alloc | apply Kd.R_drewN | apply Kd.R_drew)); exact HO113.out) (Kd.R_base ho0) hb); have n3_ := Aside0.mk (Kd.R_lower (Kd.R_new' (Kd.R_new' (Kd.R_new' ho0 (Kd.R_lt (by (with_reducible repeat (first | apply Kd.R_alloc | apply Kd.R_drewN | apply Kd.R_drew)); exact HO105.out))) (Kd.R_lt (by (with_reducible repeat (first | apply Kd.R_alloc | apply Kd.R_drewN | apply Kd.R_drew)); exact HO109.out))) (Kd.R_lt (by (with_reducible repeat (first | apply Kd.R_alloc | apply Kd.R_drewN | apply Kd.R_drew)); exact HO113.out))) (below_size (by repeat (first | (with_reducible first | exact HB.out | apply below_alloc | apply pw_below_drewN | apply below_drew1) | exact HB.out)))); have n4_ := Aside0.mk (below_step (by repeat (first | (with_reducible first | exact HB.out | apply below_alloc | apply pw_below_drewN | apply below_drew1) | exact HB.out)) hb); clear HO105; clear HO109; clear HO113; clear HB; have HO105 := n0_; have HO109 := n1_; have HO113 := n2_; have HO116 := n3_; have HB := n4_; clear n0_ n1_ n2_ n3_ n4_; (try clear hb); (try clear hb2); (try clear hk); (try clear hi); (try clear ho0); obtain ⟨Ao17, co17, eo17⟩ := Kd.R_slice HO116.out; subst eo17; have q18 : ((l1.length : Int) : Int) ≤ ((t114.length : Int) : Int) := of_decide_eq_true (by first | (with_reducible assumption) | assumption); obtain ⟨i018, hi018, _, hsz18, _⟩ := info_parts info9; have hcut18 := cut_to (P := Try.prog) 34 9 .i64 Try.underlying34 hi018 Ao17 t114.length co17 (l1.length : Int) (of_decide_eq_true (by first | (with_reducible assumption) | assumption)) q18 (Kd.R_reads' HO116.out).2.1; have hr18 := Kd.R_take (m := ((l1.length : Int) : Int).toNat) HO116.out (by omega); have hy18 : y117.length = ((l1.length : Int) : Int).toNat := (by rw [Ny117.out, List.length_take]; omega); rw [← Ny117.out] at hr18; rw [← hy18] at hr18 hcut18; clear hy18 hi018 hsz18; have HO119 := Aside0.mk hr18; clear hr18; have hsw_ : (Value.slice Ao17 y117.length co17).ownBlock = (Value.slice Ao17 t114.length co17).ownBlock := (by rcases Ao17 with _ | ⟨_, _, _⟩ <;> rfl); (try rw [← hsw_] at HO105); (try rw [← hsw_] at HO109); (try rw [← hsw_] at HO113); clear hsw_; replace q18 := eq_true q18) | ((with_reducible refine gate_callee (f := 18) rfl ?_); refine goesL_ (some 43) rfl rfl Try.func18 (by kernel_rfl) rfl #[.slice Ao17 y117.length co17] rfl (by (try simp only [List.map_toArray, List.map_cons, List.map_nil]); first | done | rfl | (simp only [List.length_drop, List.length_take]; rfl)) ?_; (with_reducible refine (route_Join.calls _ _ y117 t120 _ ?side1 ?side2 A10.out).mono ?_); (case side1 => repeat (first | exact (Kd.R_reads' HO119.out).2.2 | (with_reducible refine Kd.C_alloc ?_ _) | (with_reducible refine Kd.C_drewN ?_ _) | (with_reducible refine Kd.C_drew ?_))); (case side2 => exact (Kd.R_reads' HO119.out).2.1); rintro e w19 ⟨rfl, hb⟩; refine ⟨_, rfl, ?_⟩; have nK_ := Aside0.mk (Kd.R_below (by (with_reducible repeat (first | apply Kd.R_alloc | apply Kd.R_drewN | apply Kd.R_drew)); exact HO116.out) hb); clear HO116; have HO116 := nK_; clear nK_; have n0_ := Aside0.mk (Kd.R_below (by (with_reducible repeat (first | apply Kd.R_alloc | apply Kd.R_drewN | apply Kd.R_drew)); exact HO105.out) hb); have n1_ := Aside0.mk (Kd.R_below (by (with_reducible repeat (first | apply Kd.R_alloc | apply Kd.R_drewN | apply Kd.R_drew)); exact HO109.out) hb); have n2_ := Aside0.mk (Kd.R_below (by (with_reducible repeat (first | apply Kd.R_alloc | apply Kd.R_drewN | apply Kd.R_drew)); exact HO113.out) hb); have n3_ := Aside0.mk (Kd.R_below (by (with_reducible repeat (first | apply Kd.R_alloc | apply Kd.R_drewN | apply Kd.R_drew)); exact HO119.out) hb); have n4_ := Aside0.mk (below_step (by repeat (first | (with_reducible first | exact HB.out | apply below_alloc | apply pw_below_drewN | apply below_drew1) | exact HB.out)) hb); clear HO105; clear HO109; clear HO113; clear HO119; clear HB; have HO105 := n0_; have HO109 := n1_; have HO113 := n2_; have HO119 := n3_; have HB := n4_; clear n0_ n1_ n2_ n3_ n4_; (try clear hb); (try clear hb2); (try clear hk); (try clear hi)) | ((with_reducible refine gate_callee (f := 19) rfl ?_); refine goesL_ (some 45) rfl rfl Try.func19 (by kernel_rfl) rfl #[.slice Ao17 y117.length co17] rfl (by (try simp only [List.map_toArray, List.map_cons, List.map_nil]); first | done | rfl | (simp only [List.length_drop, List.length_take]; rfl)) ?_; (with_reducible refine (route_Special.calls _ _ y117 t121 _ ?side1 ?side2 A11.out).mono ?_); (case side1 => repeat (first | exact (Kd.R_reads' HO119.out).2.2 | (with_reducible refine Kd.C_alloc ?_ _) | (with_reducible refine Kd.C_drewN ?_ _) | (with_reducible refine Kd.C_drew ?_))); (case side2 => exact (Kd.R_reads' HO119.out).2.1); rintro e w' ⟨rfl, ⟨nd, rfl⟩⟩; refine ⟨_, rfl, ?_⟩))
        (try simp only [Act.put, List.setIfInBounds_toArray, List.set_cons_zero, List.set_cons_succ])
        go_cut [71] (fun v71 wc => ∃ (kq : Nat) (x71_11 : Bool), v71 = .bool x71_11 ∧ Aside0 (undercroftlaw20_RouteCalls.j0 kq l1 t102 t106 y117 t120 t121 x71_11 = some r) ∧ Aside0 (kq ≤ k) ∧ Aside0 (Kd.R Kd.string 9 wc w.heap.size (fun k_ => some k_ ≠ (v108 : Value).ownBlock ∧ some k_ ≠ ((.slice Ao17 y117.length co17) : Value).ownBlock) v104 t102) ∧ Aside0 (Kd.R Kd.string 9 wc w.heap.size (fun k_ => some k_ ≠ (v104 : Value).ownBlock ∧ some k_ ≠ ((.slice Ao17 y117.length co17) : Value).ownBlock) v108 t106) ∧ Aside0 (Kd.R Kd.string 9 wc w.heap.size (fun k_ => some k_ ≠ (v104 : Value).ownBlock ∧ some k_ ≠ (v108 : Value).ownBlock) (.slice Ao17 y117.length co17) y117) ∧ Aside0 (Below w.heap.size w wc))
        case first =>
          have H := HC12.out
          clear HC12
          by_cases c20 : t103 = t111
          · rw [if_pos c20] at H
            have c20b0 : (t103 == t111) = true := beq_iff_eq.mpr c20
            have c20b1 : (t103 != t111) = false := bne_eq_false_iff_eq.mpr c20
            clear c20
            (first | rw [c20b0] | (simp only [i64_w, i32_w]; rw [c20b0]) | skip)
            by_cases c21 : t107 = t111
            · rw [if_pos c21] at H
              have c21b0 : (t107 == t111) = true := beq_iff_eq.mpr c21
              have c21b1 : (t107 != t111) = false := bne_eq_false_iff_eq.mpr c21
              clear c21
              replace H := Option.bind_eq_some_iff.mp H
              obtain ⟨t122, A220, H⟩ := H
              replace H : (if t122 = true then ((undercroftkit_SameTexts.f k t106 t110).bind fun t123 => (if t123 = true then ((undercroftkit_KeptTexts.f k t114 l1).bind fun t124 => (undercroftlaw20_RouteCalls.j0 k l1 t102 t106 y117 t120 t121 (!t124))) else (undercroftlaw20_RouteCalls.j0 k l1 t102 t106 y117 t120 t121 true))) else (undercroftlaw20_RouteCalls.j0 k l1 t102 t106 y117 t120 t121 true)) = some r := H
              have A22 := Aside0.mk A220
              clear A220
              by_cases c23 : t122 = true
              · subst c23
                have H1 : ((undercroftkit_SameTexts.f k t106 t110).bind fun t123 => (if t123 = true then ((undercroftkit_KeptTexts.f k t114 l1).bind fun t124 => (undercroftlaw20_RouteCalls.j0 k l1 t102 t106 y117 t120 t121 (!t124))) else (undercroftlaw20_RouteCalls.j0 k l1 t102 t106 y117 t120 t121 true))) = some r := by rw [if_pos rfl] at H; exact H
                clear H
                have H := H1
                clear H1
                replace H := Option.bind_eq_some_iff.mp H
                obtain ⟨t123, A240, H⟩ := H
                replace H : (if t123 = true then ((undercroftkit_KeptTexts.f k t114 l1).bind fun t124 => (undercroftlaw20_RouteCalls.j0 k l1 t102 t106 y117 t120 t121 (!t124))) else (undercroftlaw20_RouteCalls.j0 k l1 t102 t106 y117 t120 t121 true)) = some r := H
                have A24 := Aside0.mk A240
                clear A240
                by_cases c25 : t123 = true
                · subst c25
                  have H1 : ((undercroftkit_KeptTexts.f k t114 l1).bind fun t124 => (undercroftlaw20_RouteCalls.j0 k l1 t102 t106 y117 t120 t121 (!t124))) = some r := by rw [if_pos rfl] at H; exact H
                  clear H
                  have H := H1
                  clear H1
                  replace H := Option.bind_eq_some_iff.mp H
                  obtain ⟨t124, A260, H⟩ := H
                  replace H : (undercroftlaw20_RouteCalls.j0 k l1 t102 t106 y117 t120 t121 (!t124)) = some r := H
                  have A26 := Aside0.mk A260
                  clear A260
                  have H' := Aside0.mk H
                  clear H
                  obtain ⟨Ao27, co27, eo27⟩ := Kd.R_slice HO105.out
                  subst eo27
                  obtain ⟨Ao28, co28, eo28⟩ := Kd.R_slice HO113.out
                  subst eo28
                  go_wp2_with (first | (go_at_call 20; (with_reducible refine (undercroftkit_SameTexts.calls k _ _ t102 _ _ t110 true _ ?side1 ?side2 ?side3 ?side4 A22.out).mono ?_); (case side1 => repeat (first | exact (Kd.R_reads' HO105.out).2.2 | (with_reducible refine Kd.C_alloc ?_ _) | (with_reducible refine Kd.C_drewN ?_ _) | (with_reducible refine Kd.C_drew ?_))); (case side2 => exact (Kd.R_reads' HO105.out).2.1); (case side3 => repeat (first | exact (Kd.R_reads' HO113.out).2.2 | (with_reducible refine Kd.C_alloc ?_ _) | (with_reducible refine Kd.C_drewN ?_ _) | (with_reducible refine Kd.C_drew ?_))); (case side4 => exact (Kd.R_reads' HO113.out).2.1); rintro e w' ⟨rfl, ⟨nd, rfl⟩⟩; obtain ⟨Ao29, co29, eo29⟩ := Kd.R_slice HO109.out; subst eo29) | (go_at_call 20; (with_reducible refine (undercroftkit_SameTexts.calls k _ _ t106 _ _ t110 true _ ?side1 ?side2 ?side3 ?side4 A24.out).mono ?_); (case side1 => repeat (first | exact (Kd.R_reads' HO109.out).2.2 | (with_reducible refine Kd.C_alloc ?_ _) | (with_reducible refine Kd.C_drewN ?_ _) | (with_reducible refine Kd.C_drew ?_))); (case side2 => exact (Kd.R_reads' HO109.out).2.1); (case side3 => repeat (first | exact (Kd.R_reads' HO113.out).2.2 | (with_reducible refine Kd.C_alloc ?_ _) | (with_reducible refine Kd.C_drewN ?_ _) | (with_reducible refine Kd.C_drew ?_))); (case side4 => exact (Kd.R_reads' HO113.out).2.1); rintro e w' ⟨rfl, ⟨nd, rfl⟩⟩) | (go_at_call 21; (with_reducible refine (undercroftkit_KeptTexts.calls k _ _ t114 _ _ l1 t124 _ ?side1 ?side2 ?side3 ?side4 A26.out).mono ?_); (case side1 => repeat (first | exact (Kd.R_reads' HO116.out).2.2 | (with_reducible refine Kd.C_alloc ?_ _) | (with_reducible refine Kd.C_drewN ?_ _) | (with_reducible refine Kd.C_drew ?_))); (case side2 => exact (Kd.R_reads' HO116.out).2.1); (case side3 => repeat (first | exact (Kd.C_below HR1.out (by repeat (first | (with_reducible first | exact HB.out | apply below_alloc | apply pw_below_drewN | apply below_drew1) | exact HB.out))) | (with_reducible refine Kd.C_alloc ?_ _) | (with_reducible refine Kd.C_drewN ?_ _) | (with_reducible refine Kd.C_drew ?_))); (case side4 => exact HC1.out); rintro e w30 ⟨rfl, hb⟩; have n0_ := Aside0.mk (Kd.R_below (by (with_reducible repeat (first | apply Kd.R_alloc | apply Kd.R_drewN | apply Kd.R_drew)); exact HO105.out) hb); have n1_ := Aside0.mk (Kd.R_below (by (with_reducible repeat (first | apply Kd.R_alloc | apply Kd.R_drewN | apply Kd.R_drew)); exact HO109.out) hb); have n2_ := Aside0.mk (Kd.R_below (by (with_reducible repeat (first | apply Kd.R_alloc | apply Kd.R_drewN | apply Kd.R_drew)); exact HO113.out) hb); have n3_ := Aside0.mk (Kd.R_below (by (with_reducible repeat (first | apply Kd.R_alloc | apply Kd.R_drewN | apply Kd.R_drew)); exact HO119.out) hb); have n4_ := Aside0.mk (below_step (by repeat (first | (with_reducible first | exact HB.out | apply below_alloc | apply pw_below_drewN | apply below_drew1) | exact HB.out)) hb); clear HO105; clear HO109; clear HO113; clear HO119; clear HB; have HO105 := n0_; have HO109 := n1_; have HO113 := n2_; have HO119 := n3_; have HB := n4_; clear n0_ n1_ n2_ n3_ n4_; (try clear hb); (try clear hb2); (try clear hk); (try clear hi)))
                  go_meet
                  case rel => exact ⟨_, (!t124), (by first | rfl | (simp; done) | (simp [*]; done)), H', ⟨by first | omega | exact Nat.le_refl _⟩, ⟨by (with_reducible repeat (first | apply Kd.R_alloc | apply Kd.R_drewN | apply Kd.R_drew)); exact Kd.R_mono HO105.out (fun _ hk => ⟨hk.1.1.2, hk.2⟩)⟩, ⟨by (with_reducible repeat (first | apply Kd.R_alloc | apply Kd.R_drewN | apply Kd.R_drew)); exact Kd.R_mono HO109.out (fun _ hk => ⟨hk.1.1.2, hk.2⟩)⟩, ⟨by (with_reducible repeat (first | apply Kd.R_alloc | apply Kd.R_drewN | apply Kd.R_drew)); exact Kd.R_mono HO119.out (fun _ hk => ⟨hk.1.1.2, hk.1.2⟩)⟩, ⟨by repeat (first | (with_reducible first | exact HB.out | apply below_alloc | apply pw_below_drewN | apply below_drew1) | exact HB.out)⟩⟩
                · replace c25 := Bool.eq_false_iff.mpr c25
                  subst c25
                  have H1 : (undercroftlaw20_RouteCalls.j0 k l1 t102 t106 y117 t120 t121 true) = some r := by rw [if_neg (show ¬ (false = true) by decide)] at H; exact H
                  clear H
                  have H := H1
                  clear H1
                  have H' := Aside0.mk H
                  clear H
                  obtain ⟨Ao31, co31, eo31⟩ := Kd.R_slice HO105.out
                  subst eo31
                  obtain ⟨Ao32, co32, eo32⟩ := Kd.R_slice HO113.out
                  subst eo32
                  go_wp2_with (first | (go_at_call 20; (with_reducible refine (undercroftkit_SameTexts.calls k _ _ t102 _ _ t110 true _ ?side1 ?side2 ?side3 ?side4 A22.out).mono ?_); (case side1 => repeat (first | exact (Kd.R_reads' HO105.out).2.2 | (with_reducible refine Kd.C_alloc ?_ _) | (with_reducible refine Kd.C_drewN ?_ _) | (with_reducible refine Kd.C_drew ?_))); (case side2 => exact (Kd.R_reads' HO105.out).2.1); (case side3 => repeat (first | exact (Kd.R_reads' HO113.out).2.2 | (with_reducible refine Kd.C_alloc ?_ _) | (with_reducible refine Kd.C_drewN ?_ _) | (with_reducible refine Kd.C_drew ?_))); (case side4 => exact (Kd.R_reads' HO113.out).2.1); rintro e w' ⟨rfl, ⟨nd, rfl⟩⟩; obtain ⟨Ao33, co33, eo33⟩ := Kd.R_slice HO109.out; subst eo33) | (go_at_call 20; (with_reducible refine (undercroftkit_SameTexts.calls k _ _ t106 _ _ t110 false _ ?side1 ?side2 ?side3 ?side4 A24.out).mono ?_); (case side1 => repeat (first | exact (Kd.R_reads' HO109.out).2.2 | (with_reducible refine Kd.C_alloc ?_ _) | (with_reducible refine Kd.C_drewN ?_ _) | (with_reducible refine Kd.C_drew ?_))); (case side2 => exact (Kd.R_reads' HO109.out).2.1); (case side3 => repeat (first | exact (Kd.R_reads' HO113.out).2.2 | (with_reducible refine Kd.C_alloc ?_ _) | (with_reducible refine Kd.C_drewN ?_ _) | (with_reducible refine Kd.C_drew ?_))); (case side4 => exact (Kd.R_reads' HO113.out).2.1); rintro e w' ⟨rfl, ⟨nd, rfl⟩⟩))
                  go_meet
                  case rel => exact ⟨_, (true), (by first | rfl | (simp; done) | (simp [*]; done)), H', ⟨by first | omega | exact Nat.le_refl _⟩, ⟨by (with_reducible repeat (first | apply Kd.R_alloc | apply Kd.R_drewN | apply Kd.R_drew)); exact Kd.R_mono HO105.out (fun _ hk => ⟨hk.1.1.2, hk.2⟩)⟩, ⟨by (with_reducible repeat (first | apply Kd.R_alloc | apply Kd.R_drewN | apply Kd.R_drew)); exact Kd.R_mono HO109.out (fun _ hk => ⟨hk.1.1.2, hk.2⟩)⟩, ⟨by (with_reducible repeat (first | apply Kd.R_alloc | apply Kd.R_drewN | apply Kd.R_drew)); exact Kd.R_mono HO119.out (fun _ hk => ⟨hk.1.1.2, hk.1.2⟩)⟩, ⟨by repeat (first | (with_reducible first | exact HB.out | apply below_alloc | apply pw_below_drewN | apply below_drew1) | exact HB.out)⟩⟩
              · replace c23 := Bool.eq_false_iff.mpr c23
                subst c23
                have H1 : (undercroftlaw20_RouteCalls.j0 k l1 t102 t106 y117 t120 t121 true) = some r := by rw [if_neg (show ¬ (false = true) by decide)] at H; exact H
                clear H
                have H := H1
                clear H1
                have H' := Aside0.mk H
                clear H
                obtain ⟨Ao34, co34, eo34⟩ := Kd.R_slice HO105.out
                subst eo34
                obtain ⟨Ao35, co35, eo35⟩ := Kd.R_slice HO113.out
                subst eo35
                go_wp2_with (first | (go_at_call 20; (with_reducible refine (undercroftkit_SameTexts.calls k _ _ t102 _ _ t110 false _ ?side1 ?side2 ?side3 ?side4 A22.out).mono ?_); (case side1 => repeat (first | exact (Kd.R_reads' HO105.out).2.2 | (with_reducible refine Kd.C_alloc ?_ _) | (with_reducible refine Kd.C_drewN ?_ _) | (with_reducible refine Kd.C_drew ?_))); (case side2 => exact (Kd.R_reads' HO105.out).2.1); (case side3 => repeat (first | exact (Kd.R_reads' HO113.out).2.2 | (with_reducible refine Kd.C_alloc ?_ _) | (with_reducible refine Kd.C_drewN ?_ _) | (with_reducible refine Kd.C_drew ?_))); (case side4 => exact (Kd.R_reads' HO113.out).2.1); rintro e w' ⟨rfl, ⟨nd, rfl⟩⟩))
                go_meet
                case rel => exact ⟨_, (true), (by first | rfl | (simp; done) | (simp [*]; done)), H', ⟨by first | omega | exact Nat.le_refl _⟩, ⟨by (with_reducible repeat (first | apply Kd.R_alloc | apply Kd.R_drewN | apply Kd.R_drew)); exact Kd.R_mono HO105.out (fun _ hk => ⟨hk.1.1.2, hk.2⟩)⟩, ⟨by (with_reducible repeat (first | apply Kd.R_alloc | apply Kd.R_drewN | apply Kd.R_drew)); exact Kd.R_mono HO109.out (fun _ hk => ⟨hk.1.1.2, hk.2⟩)⟩, ⟨by (with_reducible repeat (first | apply Kd.R_alloc | apply Kd.R_drewN | apply Kd.R_drew)); exact Kd.R_mono HO119.out (fun _ hk => ⟨hk.1.1.2, hk.1.2⟩)⟩, ⟨by repeat (first | (with_reducible first | exact HB.out | apply below_alloc | apply pw_below_drewN | apply below_drew1) | exact HB.out)⟩⟩
            · rw [if_neg c21] at H
              have c21b0 : (t107 == t111) = false := beq_eq_false_iff_ne.mpr c21
              have c21b1 : (t107 != t111) = true := bne_iff_ne.mpr c21
              have H' := Aside0.mk H
              clear H
              go_wp2
              go_meet
              case rel => exact ⟨_, (true), (by first | rfl | (simp; done) | (simp [*]; done)), H', ⟨by first | omega | exact Nat.le_refl _⟩, ⟨by (with_reducible repeat (first | apply Kd.R_alloc | apply Kd.R_drewN | apply Kd.R_drew)); exact Kd.R_mono HO105.out (fun _ hk => ⟨hk.1.1.2, hk.2⟩)⟩, ⟨by (with_reducible repeat (first | apply Kd.R_alloc | apply Kd.R_drewN | apply Kd.R_drew)); exact Kd.R_mono HO109.out (fun _ hk => ⟨hk.1.1.2, hk.2⟩)⟩, ⟨by (with_reducible repeat (first | apply Kd.R_alloc | apply Kd.R_drewN | apply Kd.R_drew)); exact Kd.R_mono HO119.out (fun _ hk => ⟨hk.1.1.2, hk.1.2⟩)⟩, ⟨by repeat (first | (with_reducible first | exact HB.out | apply below_alloc | apply pw_below_drewN | apply below_drew1) | exact HB.out)⟩⟩
          · rw [if_neg c20] at H
            have c20b0 : (t103 == t111) = false := beq_eq_false_iff_ne.mpr c20
            have c20b1 : (t103 != t111) = true := bne_iff_ne.mpr c20
            (first | rw [c20b0] | (simp only [i64_w, i32_w]; rw [c20b0]) | skip)
            have H' := Aside0.mk H
            clear H
            go_wp2
            go_meet
            case rel => exact ⟨_, (true), (by first | rfl | (simp; done) | (simp [*]; done)), H', ⟨by first | omega | exact Nat.le_refl _⟩, ⟨by (with_reducible repeat (first | apply Kd.R_alloc | apply Kd.R_drewN | apply Kd.R_drew)); exact Kd.R_mono HO105.out (fun _ hk => ⟨hk.1.1.2, hk.2⟩)⟩, ⟨by (with_reducible repeat (first | apply Kd.R_alloc | apply Kd.R_drewN | apply Kd.R_drew)); exact Kd.R_mono HO109.out (fun _ hk => ⟨hk.1.1.2, hk.2⟩)⟩, ⟨by (with_reducible repeat (first | apply Kd.R_alloc | apply Kd.R_drewN | apply Kd.R_drew)); exact Kd.R_mono HO119.out (fun _ hk => ⟨hk.1.1.2, hk.1.2⟩)⟩, ⟨by repeat (first | (with_reducible first | exact HB.out | apply below_alloc | apply pw_below_drewN | apply below_drew1) | exact HB.out)⟩⟩
        case rest =>
          clear HC12
          try clear c1
          try clear q1
          try clear c2
          try clear p2
          try clear c3
          try clear c3b0
          try clear c3b1
          try clear c4
          try clear c8
          try clear c8b0
          try clear c8b1
          try clear c9
          try clear c9b0
          try clear c9b1
          try clear c15
          try clear c16
          try clear c17
          try clear c18
          try clear q18
          try clear c19
          try clear c20
          try clear c20b0
          try clear c20b1
          try clear c21
          try clear c21b0
          try clear c21b1
          try clear c23
          try clear c25
          try clear q18
          obtain ⟨kq, x71_11, rfl, HA, HJ11, HO_5, HO_7, HO_12, HB⟩ := hcut
          cases kq with
          | zero => exact absurd HA.out (by simp [undercroftlaw20_RouteCalls.j0])
          | succ kj11 =>
            have H := HA.out
            clear HA
            simp only [undercroftlaw20_RouteCalls.j0] at H
            by_cases c36 : x71_11 = true
            · subst c36
              have H1 : (some false) = some r := by rw [if_pos rfl] at H; exact H
              clear H
              have H := H1
              clear H1
              obtain rfl := Option.some.inj H
              first
              | exact absurd Hr_.out (by decide)
              | skip
                go_wp2
                go_ret
                exact ⟨by first | rfl | (simp [errW_none, errW_some] <;> rfl) | (simp [*, errW_none, errW_some] <;> rfl), by repeat (first | (with_reducible first | exact HB.out | apply below_alloc | apply pw_below_drewN | apply below_drew1) | exact HB.out)⟩
            · replace c36 := Bool.eq_false_iff.mpr c36
              subst c36
              have H1 : (undercroftlaw20_RouteCalls.l0 kj11 l1 t102 t106 y117 t120 t121 0) = some r := by rw [if_neg (show ¬ (false = true) by decide)] at H; exact H
              clear H
              have H := H1
              clear H1
              have H' := Aside0.mk H
              clear H
              go_wp2
              go_loopg [15] kj11 (fun kq v15 w' => ∃ (x12_2 : List ByteArray) (x15_2 : Int), v15 = .int .i64 x15_2 ∧ Aside0 (undercroftlaw20_RouteCalls.l0 kq l1 t102 t106 x12_2 t120 t121 x15_2 = some r) ∧ Aside0 (kq ≤ kj11) ∧ Aside0 (Kd.R Kd.string 9 w' w.heap.size (fun k_ => some k_ ≠ (v108 : Value).ownBlock ∧ some k_ ≠ ((.slice Ao17 y117.length co17) : Value).ownBlock) v104 t102) ∧ Aside0 (Kd.R Kd.string 9 w' w.heap.size (fun k_ => some k_ ≠ (v104 : Value).ownBlock ∧ some k_ ≠ ((.slice Ao17 y117.length co17) : Value).ownBlock) v108 t106) ∧ Aside0 (Kd.R Kd.string 9 w' w.heap.size (fun k_ => some k_ ≠ (v104 : Value).ownBlock ∧ some k_ ≠ (v108 : Value).ownBlock) (.slice Ao17 y117.length co17) x12_2) ∧ Aside0 (Below w.heap.size w w'))
              case atStart => exact ⟨(y117), (0), (by first | rfl | (simp; done) | (simp [*]; done)), H', ⟨Nat.le_refl _⟩, ⟨by (with_reducible repeat (first | apply Kd.R_alloc | apply Kd.R_drewN | apply Kd.R_drew)); exact HO_5.out⟩, ⟨by (with_reducible repeat (first | apply Kd.R_alloc | apply Kd.R_drewN | apply Kd.R_drew)); exact HO_7.out⟩, ⟨by (with_reducible repeat (first | apply Kd.R_alloc | apply Kd.R_drewN | apply Kd.R_drew)); exact HO_12.out⟩, ⟨by repeat (first | (with_reducible first | exact HB.out | apply below_alloc | apply pw_below_drewN | apply below_drew1) | exact HB.out)⟩⟩
              case round =>
                clear H'
                try clear c1
                try clear q1
                try clear c2
                try clear p2
                try clear c3
                try clear c3b0
                try clear c3b1
                try clear c4
                try clear c8
                try clear c8b0
                try clear c8b1
                try clear c9
                try clear c9b0
                try clear c9b1
                try clear c15
                try clear c16
                try clear c17
                try clear c18
                try clear q18
                try clear c19
                try clear c20
                try clear c20b0
                try clear c20b1
                try clear c21
                try clear c21b0
                try clear c21b1
                try clear c23
                try clear c25
                try clear c36
                try clear p2
                try clear q1
                try clear q18
                obtain ⟨x12_2, x15_2, rfl, HA, HK2, HO_5, HO_7, HO_12, HB⟩ := hrel
                have hl12_2 := (Kd.R_reads' HO_12.out).1
                rw [hl12_2] at HO_12
                (try simp only [hl12_2])
                (try simp only [hl12_2] at HO_5)
                (try simp only [hl12_2] at HO_7)
                cases gk with
                | zero => exact absurd HA.out (by simp [undercroftlaw20_RouteCalls.l0])
                | succ k2 =>
                  have H := HA.out
                  clear HA
                  simp only [undercroftlaw20_RouteCalls.l0] at H
                  by_cases c37 : x15_2 < (x12_2.length : Int)
                  · rw [if_pos c37] at H
                    have c37b0 : decide (x15_2 < (x12_2.length : Int)) = true := decide_eq_true c37
                    clear c37
                    by_cases c38 : 0 ≤ x15_2
                    · rw [if_pos c38] at H
                      have c38b0 : decide (0 ≤ x15_2) = true := decide_eq_true c38
                      clear c38
                      by_cases c39 : (rdOf ByteArray.empty x12_2 x15_2).size + 1 ≤ 9223372036854775807
                      · rw [if_pos c39] at H
                        have c39b0 := eq_true c39
                        have c39b1 : decide ((rdOf ByteArray.empty x12_2 x15_2).size + 1 ≤ 9223372036854775807) = true := decide_eq_true c39
                        try have c39b2 : (9223372036854775807 < (rdOf ByteArray.empty x12_2 x15_2).size + 1) = False := eq_false (Nat.not_lt.2 c39)
                        obtain ⟨y126, hy126⟩ : ∃ y_ : List ByteArray, y_ = (x12_2.set (x15_2 : Int).toNat ((rdOf ByteArray.empty x12_2 x15_2) ++ (⟨#[120]⟩ : ByteArray))) := ⟨_, rfl⟩
                        replace H : (undercroftlaw20_RouteCalls.l0 k2 l1 t102 t106 y126 t120 t121 (wrap64 (x15_2 + 1))) = some r := by first | (rw [hy126]; with_reducible exact H) | (have H2_ := (Option.bind_some _ _).symm.trans H; rw [hy126]; with_reducible exact H2_) | (have H2_ := (Option.bind_some _ _).symm.trans H; with_reducible exact H2_) | with_reducible exact H | (rw [hy126]; exact H) | exact H
                        have Ny126 := Aside0.mk hy126
                        clear hy126
                        have H' := Aside0.mk H
                        clear H
                        have p125 : 0 ≤ (x15_2 : Int) := of_decide_eq_true (by first | (with_reducible assumption) | assumption)
                        have q125 : x15_2 < (x12_2.length : Int) := of_decide_eq_true (by first | (with_reducible assumption) | assumption)
                        obtain ⟨ad125, e125, hx125_0⟩ := Kd.at_string (Kd.R_reads' HO_12.out).2.2 x15_2 p125 q125
                        cases e125
                        replace p125 := eq_true p125
                        replace q125 := eq_true q125
                        have p40 : 0 ≤ (x15_2 : Int) := of_decide_eq_true (by first | (with_reducible assumption) | assumption)
                        have q40 : (x15_2 : Int) < ((x12_2.length : Int) : Int) := of_decide_eq_true (by first | (with_reducible assumption) | assumption)
                        obtain ⟨go40, co40, eo40, gb40, gl40, cl40, HG40⟩ := Kd.R_form HO_12.out (by omega)
                        (first | cases eo40 | (injection eo40 with ea_ en_ ec_; (first | subst ea_ | (injection ea_ with ea_; subst ea_)); subst ec_; clear en_))
                        have GB40 := Aside0.mk gb40
                        have GG40 := Aside0.mk HG40
                        clear gb40 gl40 HG40
                        (first | simp only [add_plain] at hx125_0 | skip)
                        obtain ⟨hx40_0, hf40_0⟩ := Kd.R_celln (⟨#[]⟩ : ByteArray) HO_12.out (x15_2 : Int) p40 q40
                        replace p40 := eq_true p40
                        replace q40 := eq_true q40
                        have HP41 := Kd.R_putg HO_12.out (x15_2 : Int) ((rdOf ByteArray.empty x12_2 x15_2) ++ (⟨#[120]⟩ : ByteArray))
                        go_wp2_with (first | ((with_reducible refine gate_store (t := 9) (p := 85) rfl ?_); refine store_event (t := 9) (p := 85) (v := ?vo_w42) (w1 := (wr.setCell ⟨go40, (x15_2 : Int).toNat, none⟩ (.string ((rdOf ByteArray.empty x12_2 x15_2) ++ (⟨#[120]⟩ : ByteArray))))) ?hg ?ho ?hn ?hr ?_; (case ho => rfl); (case hg => rfl); (case hn => rfl); (case hr => first | (go_simp; done) | (go_simp; rfl)); intro w42 hw; have hg : wr.grownBy w42 (some go40) := (by rw [hw]; exact HP41.2); have hp_ : Kd.R Kd.string 9 w42 w.heap.size (fun k_ => some k_ ≠ (v104 : Value).ownBlock ∧ some k_ ≠ (v108 : Value).ownBlock) (.slice (some ⟨go40, 0, none⟩) x12_2.length co17) y126 := (by rw [hw, Ny126.out]; exact HP41.1); clear HP41; have n0_ := Aside0.mk (Kd.R_after (v := (.slice (some ⟨go40, 0, none⟩) x12_2.length co17)) (v1 := (.slice (some ⟨go40, 0, none⟩) x12_2.length co17)) (ok := (fun k_ => some k_ ≠ (v108 : Value).ownBlock)) (by (with_reducible repeat (first | apply Kd.R_alloc | apply Kd.R_drewN | apply Kd.R_drew)); exact HO_5.out) hg (.inl rfl)); have n1_ := Aside0.mk (Kd.R_after (v := (.slice (some ⟨go40, 0, none⟩) x12_2.length co17)) (v1 := (.slice (some ⟨go40, 0, none⟩) x12_2.length co17)) (ok := (fun k_ => some k_ ≠ (v104 : Value).ownBlock)) (by (with_reducible repeat (first | apply Kd.R_alloc | apply Kd.R_drewN | apply Kd.R_drew)); exact HO_7.out) hg (.inl rfl)); have n2_ := Aside0.mk (hp_); have n3_ := Aside0.mk ((by rw [hw]; exact below_set (HB.out) GB40.out : Below w.heap.size w w42)); clear HO_5; clear HO_7; clear HO_12; clear HB; have HO_5 := n0_; have HO_7 := n1_; have HO_12 := n2_; have HB := n3_; clear n0_ n1_ n2_ n3_; clear hg hw hp_))
                        (try simp only [← hl12_2])
                        go_roundg k2
                        case measure => have := HJ11.out; have := HK2.out; omega
                        case rel => exact ⟨(y126), (wrap64 (x15_2 + 1)), (by first | rfl | (simp; done) | (simp [*]; done)), H', ⟨by have := HJ11.out; have := HK2.out; omega⟩, ⟨by (try simp only [hl12_2]); (with_reducible repeat (first | apply Kd.R_alloc | apply Kd.R_drewN | apply Kd.R_drew)); exact HO_5.out⟩, ⟨by (try simp only [hl12_2]); (with_reducible repeat (first | apply Kd.R_alloc | apply Kd.R_drewN | apply Kd.R_drew)); exact HO_7.out⟩, ⟨by (try simp only [hl12_2]); (with_reducible repeat (first | apply Kd.R_alloc | apply Kd.R_drewN | apply Kd.R_drew)); exact HO_12.out⟩, ⟨by repeat (first | (with_reducible first | exact HB.out | apply below_alloc | apply pw_below_drewN | apply below_drew1) | exact HB.out)⟩⟩
                      · rw [if_neg c39] at H
                        exact absurd H (by simp)
                    · rw [if_neg c38] at H
                      exact absurd H (by simp)
                  · rw [if_neg c37] at H
                    have c37b0 : decide (x15_2 < (x12_2.length : Int)) = false := decide_eq_false c37
                    clear c37
                    replace H := Option.bind_eq_some_iff.mp H
                    obtain ⟨t127, A430, H⟩ := H
                    replace H : ((route_Join.f x12_2).bind fun t130 => ((undercroftref20_Join.f k2 t127).bind fun t131 => (if t130.toList = t131.toList then ((route_Special.f x12_2).bind fun t132 => ((undercroftref20_Special.f t127).bind fun t133 => (undercroftlaw20_RouteCalls.j2 k2 l1 t102 t106 t120 t121 (t132 == t133)))) else (undercroftlaw20_RouteCalls.j2 k2 l1 t102 t106 t120 t121 false)))) = some r := H
                    have A43 := Aside0.mk A430
                    clear A430
                    have HC44 := Aside0.mk H
                    clear H
                    go_upto_region 17 with (first | ((with_reducible refine gate_callee (f := 22) rfl ?_); refine goesL_ (some 87) rfl rfl Try.func22 (by kernel_rfl) rfl #[.slice Ao17 x12_2.length co17] rfl (by (try simp only [List.map_toArray, List.map_cons, List.map_nil]); first | done | rfl | (simp only [List.length_drop, List.length_take]; rfl)) ?_; (with_reducible refine (undercroftkit_CopyTexts.calls _ _ x12_2 t127 _ ?side1 ?side2 A43.out).mono ?_); (case side1 => repeat (first | exact (Kd.R_reads' HO_12.out).2.2 | (with_reducible refine Kd.C_alloc ?_ _) | (with_reducible refine Kd.C_drewN ?_ _) | (with_reducible refine Kd.C_drew ?_))); (case side2 => exact (Kd.R_reads' HO_12.out).2.1); rintro e w45 ⟨v128, rfl, ho0, hb⟩; refine ⟨_, rfl, ?_⟩; have n0_ := Aside0.mk (Kd.R_elder' (by (with_reducible repeat (first | apply Kd.R_alloc | apply Kd.R_drewN | apply Kd.R_drew)); exact HO_5.out) (Kd.R_base ho0) hb); have n1_ := Aside0.mk (Kd.R_elder' (by (with_reducible repeat (first | apply Kd.R_alloc | apply Kd.R_drewN | apply Kd.R_drew)); exact HO_7.out) (Kd.R_base ho0) hb); have n2_ := Aside0.mk (Kd.R_elder' (by (with_reducible repeat (first | apply Kd.R_alloc | apply Kd.R_drewN | apply Kd.R_drew)); exact HO_12.out) (Kd.R_base ho0) hb); have n3_ := Aside0.mk (Kd.R_lower (Kd.R_new' (Kd.R_new' (Kd.R_new' ho0 (Kd.R_lt (by (with_reducible repeat (first | apply Kd.R_alloc | apply Kd.R_drewN | apply Kd.R_drew)); exact HO_5.out))) (Kd.R_lt (by (with_reducible repeat (first | apply Kd.R_alloc | apply Kd.R_drewN | apply Kd.R_drew)); exact HO_7.out))) (Kd.R_lt (by (with_reducible repeat (first | apply Kd.R_alloc | apply Kd.R_drewN | apply Kd.R_drew)); exact HO_12.out))) (below_size (by repeat (first | (with_reducible first | exact HB.out | apply below_alloc | apply pw_below_drewN | apply below_drew1) | exact HB.out)))); have n4_ := Aside0.mk (below_step (by repeat (first | (with_reducible first | exact HB.out | apply below_alloc | apply pw_below_drewN | apply below_drew1) | exact HB.out)) hb); clear HO_5; clear HO_7; clear HO_12; clear HB; have HO_5 := n0_; have HO_7 := n1_; have HO_12 := n2_; have HO129 := n3_; have HB := n4_; clear n0_ n1_ n2_ n3_ n4_; (try clear hb); (try clear hb2); (try clear hk); (try clear hi); (try clear ho0)))
                    (try simp only [Act.put, List.setIfInBounds_toArray, List.set_cons_zero, List.set_cons_succ])
                    go_cut [17] (fun v17 wc => ∃ (kq : Nat) (x17_43 : Bool), v17 = .bool x17_43 ∧ Aside0 (undercroftlaw20_RouteCalls.j2 kq l1 t102 t106 t120 t121 x17_43 = some r) ∧ Aside0 (kq ≤ k2) ∧ Aside0 (Kd.R Kd.string 9 wc w.heap.size (fun k_ => some k_ ≠ (v108 : Value).ownBlock) v104 t102) ∧ Aside0 (Kd.R Kd.string 9 wc w.heap.size (fun k_ => some k_ ≠ (v104 : Value).ownBlock) v108 t106) ∧ Aside0 (Below w.heap.size w wc))
                    case first =>
                      have H := HC44.out
                      clear HC44
                      replace H := Option.bind_eq_some_iff.mp H
                      obtain ⟨t130, A460, H⟩ := H
                      replace H : ((undercroftref20_Join.f k2 t127).bind fun t131 => (if t130.toList = t131.toList then ((route_Special.f x12_2).bind fun t132 => ((undercroftref20_Special.f t127).bind fun t133 => (undercroftlaw20_RouteCalls.j2 k2 l1 t102 t106 t120 t121 (t132 == t133)))) else (undercroftlaw20_RouteCalls.j2 k2 l1 t102 t106 t120 t121 false))) = some r := H
                      have A46 := Aside0.mk A460
                      clear A460
                      replace H := Option.bind_eq_some_iff.mp H
                      obtain ⟨t131, A470, H⟩ := H
                      replace H : (if t130.toList = t131.toList then ((route_Special.f x12_2).bind fun t132 => ((undercroftref20_Special.f t127).bind fun t133 => (undercroftlaw20_RouteCalls.j2 k2 l1 t102 t106 t120 t121 (t132 == t133)))) else (undercroftlaw20_RouteCalls.j2 k2 l1 t102 t106 t120 t121 false)) = some r := H
                      have A47 := Aside0.mk A470
                      clear A470
                      by_cases c48 : t130.toList = t131.toList
                      · rw [if_pos c48] at H
                        have c48b0 : (t130.toList == t131.toList) = true := beq_iff_eq.mpr c48
                        have c48b1 : (t130.toList != t131.toList) = false := bne_eq_false_iff_eq.mpr c48
                        clear c48
                        (first | rw [c48b0] | (simp only [i64_w, i32_w]; rw [c48b0]) | skip)
                        replace H := Option.bind_eq_some_iff.mp H
                        obtain ⟨t132, A490, H⟩ := H
                        replace H : ((undercroftref20_Special.f t127).bind fun t133 => (undercroftlaw20_RouteCalls.j2 k2 l1 t102 t106 t120 t121 (t132 == t133))) = some r := H
                        have A49 := Aside0.mk A490
                        clear A490
                        replace H := Option.bind_eq_some_iff.mp H
                        obtain ⟨t133, A500, H⟩ := H
                        replace H : (undercroftlaw20_RouteCalls.j2 k2 l1 t102 t106 t120 t121 (t132 == t133)) = some r := H
                        have A50 := Aside0.mk A500
                        clear A500
                        have H' := Aside0.mk H
                        clear H
                        go_wp2_with (first | ((with_reducible refine gate_callee (f := 18) rfl ?_); refine goesL_ (some 89) rfl rfl Try.func18 (by kernel_rfl) rfl #[.slice Ao17 x12_2.length co17] rfl (by (try simp only [List.map_toArray, List.map_cons, List.map_nil]); first | done | rfl | (simp only [List.length_drop, List.length_take]; rfl)) ?_; (with_reducible refine (route_Join.calls _ _ x12_2 t130 _ ?side1 ?side2 A46.out).mono ?_); (case side1 => repeat (first | exact (Kd.R_reads' HO_12.out).2.2 | (with_reducible refine Kd.C_alloc ?_ _) | (with_reducible refine Kd.C_drewN ?_ _) | (with_reducible refine Kd.C_drew ?_))); (case side2 => exact (Kd.R_reads' HO_12.out).2.1); rintro e w51 ⟨rfl, hb⟩; refine ⟨_, rfl, ?_⟩; have n0_ := Aside0.mk (Kd.R_below (by (with_reducible repeat (first | apply Kd.R_alloc | apply Kd.R_drewN | apply Kd.R_drew)); exact HO_5.out) hb); have n1_ := Aside0.mk (Kd.R_below (by (with_reducible repeat (first | apply Kd.R_alloc | apply Kd.R_drewN | apply Kd.R_drew)); exact HO_7.out) hb); have n2_ := Aside0.mk (Kd.R_below (by (with_reducible repeat (first | apply Kd.R_alloc | apply Kd.R_drewN | apply Kd.R_drew)); exact HO_12.out) hb); have n3_ := Aside0.mk (Kd.R_below (by (with_reducible repeat (first | apply Kd.R_alloc | apply Kd.R_drewN | apply Kd.R_drew)); exact HO129.out) hb); have n4_ := Aside0.mk (below_step (by repeat (first | (with_reducible first | exact HB.out | apply below_alloc | apply pw_below_drewN | apply below_drew1) | exact HB.out)) hb); clear HO_5; clear HO_7; clear HO_12; clear HO129; clear HB; have HO_5 := n0_; have HO_7 := n1_; have HO_12 := n2_; have HO129 := n3_; have HB := n4_; clear n0_ n1_ n2_ n3_ n4_; (try clear hb); (try clear hb2); (try clear hk); (try clear hi); obtain ⟨Ao52, co52, eo52⟩ := Kd.R_slice HO129.out; subst eo52) | ((with_reducible refine gate_callee (f := 23) rfl ?_); refine goesL_ (some 91) rfl rfl Try.func23 (by kernel_rfl) rfl #[.slice Ao52 t127.length co52] rfl (by (try simp only [List.map_toArray, List.map_cons, List.map_nil]); first | done | rfl | (simp only [List.length_drop, List.length_take]; rfl)) ?_; (with_reducible refine (undercroftref20_Join.calls k2 _ _ t127 t131 _ ?side1 ?side2 A47.out).mono ?_); (case side1 => repeat (first | exact (Kd.R_reads' HO129.out).2.2 | (with_reducible refine Kd.C_alloc ?_ _) | (with_reducible refine Kd.C_drewN ?_ _) | (with_reducible refine Kd.C_drew ?_))); (case side2 => exact (Kd.R_reads' HO129.out).2.1); rintro e w' ⟨rfl, ⟨nd, rfl⟩⟩; refine ⟨_, rfl, ?_⟩) | (go_at_call 19; (with_reducible refine (route_Special.calls _ _ x12_2 t132 _ ?side1 ?side2 A49.out).mono ?_); (case side1 => repeat (first | exact (Kd.R_reads' HO_12.out).2.2 | (with_reducible refine Kd.C_alloc ?_ _) | (with_reducible refine Kd.C_drewN ?_ _) | (with_reducible refine Kd.C_drew ?_))); (case side2 => exact (Kd.R_reads' HO_12.out).2.1); rintro e w' ⟨rfl, ⟨nd, rfl⟩⟩) | (go_at_call 24; (with_reducible refine (undercroftref20_Special.calls _ _ t127 t133 _ ?side1 ?side2 A50.out).mono ?_); (case side1 => repeat (first | exact (Kd.R_reads' HO129.out).2.2 | (with_reducible refine Kd.C_alloc ?_ _) | (with_reducible refine Kd.C_drewN ?_ _) | (with_reducible refine Kd.C_drew ?_))); (case side2 => exact (Kd.R_reads' HO129.out).2.1); rintro e w' ⟨rfl, ⟨nd, rfl⟩⟩))
                        go_meet
                        case rel => exact ⟨_, ((t132 == t133)), (by first | rfl | (simp; done) | (simp [*]; done)), H', ⟨by have := HJ11.out; have := HK2.out; first | omega | exact Nat.le_refl _⟩, ⟨by (try simp only [hl12_2]); (with_reducible repeat (first | apply Kd.R_alloc | apply Kd.R_drewN | apply Kd.R_drew)); exact Kd.R_mono HO_5.out (fun _ hk => hk.1.1)⟩, ⟨by (try simp only [hl12_2]); (with_reducible repeat (first | apply Kd.R_alloc | apply Kd.R_drewN | apply Kd.R_drew)); exact Kd.R_mono HO_7.out (fun _ hk => hk.1.1)⟩, ⟨by repeat (first | (with_reducible first | exact HB.out | apply below_alloc | apply pw_below_drewN | apply below_drew1) | exact HB.out)⟩⟩
                      · rw [if_neg c48] at H
                        have c48b0 : (t130.toList == t131.toList) = false := beq_eq_false_iff_ne.mpr c48
                        have c48b1 : (t130.toList != t131.toList) = true := bne_iff_ne.mpr c48
                        (first | rw [c48b0] | (simp only [i64_w, i32_w]; rw [c48b0]) | skip)
                        have H' := Aside0.mk H
                        clear H
                        go_wp2_with (first | ((with_reducible refine gate_callee (f := 18) rfl ?_); refine goesL_ (some 89) rfl rfl Try.func18 (by kernel_rfl) rfl #[.slice Ao17 x12_2.length co17] rfl (by (try simp only [List.map_toArray, List.map_cons, List.map_nil]); first | done | rfl | (simp only [List.length_drop, List.length_take]; rfl)) ?_; (with_reducible refine (route_Join.calls _ _ x12_2 t130 _ ?side1 ?side2 A46.out).mono ?_); (case side1 => repeat (first | exact (Kd.R_reads' HO_12.out).2.2 | (with_reducible refine Kd.C_alloc ?_ _) | (with_reducible refine Kd.C_drewN ?_ _) | (with_reducible refine Kd.C_drew ?_))); (case side2 => exact (Kd.R_reads' HO_12.out).2.1); rintro e w53 ⟨rfl, hb⟩; refine ⟨_, rfl, ?_⟩; have n0_ := Aside0.mk (Kd.R_below (by (with_reducible repeat (first | apply Kd.R_alloc | apply Kd.R_drewN | apply Kd.R_drew)); exact HO_5.out) hb); have n1_ := Aside0.mk (Kd.R_below (by (with_reducible repeat (first | apply Kd.R_alloc | apply Kd.R_drewN | apply Kd.R_drew)); exact HO_7.out) hb); have n2_ := Aside0.mk (Kd.R_below (by (with_reducible repeat (first | apply Kd.R_alloc | apply Kd.R_drewN | apply Kd.R_drew)); exact HO_12.out) hb); have n3_ := Aside0.mk (Kd.R_below (by (with_reducible repeat (first | apply Kd.R_alloc | apply Kd.R_drewN | apply Kd.R_drew)); exact HO129.out) hb); have n4_ := Aside0.mk (below_step (by repeat (first | (with_reducible first | exact HB.out | apply below_alloc | apply pw_below_drewN | apply below_drew1) | exact HB.out)) hb); clear HO_5; clear HO_7; clear HO_12; clear HO129; clear HB; have HO_5 := n0_; have HO_7 := n1_; have HO_12 := n2_; have HO129 := n3_; have HB := n4_; clear n0_ n1_ n2_ n3_ n4_; (try clear hb); (try clear hb2); (try clear hk); (try clear hi); obtain ⟨Ao54, co54, eo54⟩ := Kd.R_slice HO129.out; subst eo54) | ((with_reducible refine gate_callee (f := 23) rfl ?_); refine goesL_ (some 91) rfl rfl Try.func23 (by kernel_rfl) rfl #[.slice Ao54 t127.length co54] rfl (by (try simp only [List.map_toArray, List.map_cons, List.map_nil]); first | done | rfl | (simp only [List.length_drop, List.length_take]; rfl)) ?_; (with_reducible refine (undercroftref20_Join.calls k2 _ _ t127 t131 _ ?side1 ?side2 A47.out).mono ?_); (case side1 => repeat (first | exact (Kd.R_reads' HO129.out).2.2 | (with_reducible refine Kd.C_alloc ?_ _) | (with_reducible refine Kd.C_drewN ?_ _) | (with_reducible refine Kd.C_drew ?_))); (case side2 => exact (Kd.R_reads' HO129.out).2.1); rintro e w' ⟨rfl, ⟨nd, rfl⟩⟩; refine ⟨_, rfl, ?_⟩))
                        go_meet
                        case rel => exact ⟨_, (false), (by first | rfl | (simp; done) | (simp [*]; done)), H', ⟨by have := HJ11.out; have := HK2.out; first | omega | exact Nat.le_refl _⟩, ⟨by (try simp only [hl12_2]); (with_reducible repeat (first | apply Kd.R_alloc | apply Kd.R_drewN | apply Kd.R_drew)); exact Kd.R_mono HO_5.out (fun _ hk => hk.1.1)⟩, ⟨by (try simp only [hl12_2]); (with_reducible repeat (first | apply Kd.R_alloc | apply Kd.R_drewN | apply Kd.R_drew)); exact Kd.R_mono HO_7.out (fun _ hk => hk.1.1)⟩, ⟨by repeat (first | (with_reducible first | exact HB.out | apply below_alloc | apply pw_below_drewN | apply below_drew1) | exact HB.out)⟩⟩
                    case rest =>
                      clear HC44
                      try clear c1
                      try clear p1
                      try clear q1
                      try clear hx1
                      try clear c2
                      try clear p2
                      try clear c3
                      try clear c3b0
                      try clear c3b1
                      try clear c4
                      try clear p4
                      try clear q4
                      try clear hx4
                      try clear hf4
                      try clear p6
                      try clear c8
                      try clear c8b0
                      try clear c8b1
                      try clear c9
                      try clear c9b0
                      try clear c9b1
                      try clear p12
                      try clear q12
                      try clear hx12
                      try clear c15
                      try clear c16
                      try clear c17
                      try clear c18
                      try clear q18
                      try clear c19
                      try clear c20
                      try clear c20b0
                      try clear c20b1
                      try clear c21
                      try clear c21b0
                      try clear c21b1
                      try clear c22
                      try clear c23
                      try clear c25
                      try clear c36
                      try clear c37
                      try clear c37b0
                      try clear c38
                      try clear c38b0
                      try clear c39
                      try clear c39b0
                      try clear c39b1
                      try clear c39b2
                      try clear p40
                      try clear q40
                      try clear hx40
                      try clear hf40
                      try clear c48
                      try clear c48b0
                      try clear c48b1
                      try clear hx125_0
                      try clear hx40_0
                      try clear p125
                      try clear p2
                      try clear p40
                      try clear q1
                      try clear q125
                      try clear q18
                      try clear q40
                      obtain ⟨kq, x17_43, rfl, HA, HJ43, HO_5, HO_7, HB⟩ := hcut
                      cases kq with
                      | zero => exact absurd HA.out (by simp [undercroftlaw20_RouteCalls.j2])
                      | succ kj43 =>
                        have H := HA.out
                        clear HA
                        simp only [undercroftlaw20_RouteCalls.j2] at H
                        replace H := Option.bind_eq_some_iff.mp H
                        obtain ⟨t134, A550, H⟩ := H
                        replace H : (if t134 = true then (if x17_43 = true then ((undercroftref20_Join.f kj43 l1).bind fun t135 => (if t120.toList = t135.toList then ((undercroftref20_Special.f l1).bind fun t136 => (if (t121 == t136) = true then ((undercroftkit_ApartTexts.f (([t102, t106] : List (List ByteArray)))).bind fun t140 => (some t140)) else (some false))) else (some false))) else (some false)) else (some false)) = some r := H
                        have A55 := Aside0.mk A550
                        clear A550
                        by_cases c56 : t134 = true
                        · subst c56
                          have H1 : (if x17_43 = true then ((undercroftref20_Join.f kj43 l1).bind fun t135 => (if t120.toList = t135.toList then ((undercroftref20_Special.f l1).bind fun t136 => (if (t121 == t136) = true then ((undercroftkit_ApartTexts.f (([t102, t106] : List (List ByteArray)))).bind fun t140 => (some t140)) else (some false))) else (some false))) else (some false)) = some r := by rw [if_pos rfl] at H; exact H
                          clear H
                          have H := H1
                          clear H1
                          by_cases c57 : x17_43 = true
                          · subst c57
                            have H1 : ((undercroftref20_Join.f kj43 l1).bind fun t135 => (if t120.toList = t135.toList then ((undercroftref20_Special.f l1).bind fun t136 => (if (t121 == t136) = true then ((undercroftkit_ApartTexts.f (([t102, t106] : List (List ByteArray)))).bind fun t140 => (some t140)) else (some false))) else (some false))) = some r := by rw [if_pos rfl] at H; exact H
                            clear H
                            have H := H1
                            clear H1
                            replace H := Option.bind_eq_some_iff.mp H
                            obtain ⟨t135, A580, H⟩ := H
                            replace H : (if t120.toList = t135.toList then ((undercroftref20_Special.f l1).bind fun t136 => (if (t121 == t136) = true then ((undercroftkit_ApartTexts.f (([t102, t106] : List (List ByteArray)))).bind fun t140 => (some t140)) else (some false))) else (some false)) = some r := H
                            have A58 := Aside0.mk A580
                            clear A580
                            by_cases c59 : t120.toList = t135.toList
                            · rw [if_pos c59] at H
                              have c59b0 : (t120.toList == t135.toList) = true := beq_iff_eq.mpr c59
                              have c59b1 : (t120.toList != t135.toList) = false := bne_eq_false_iff_eq.mpr c59
                              clear c59
                              replace H := Option.bind_eq_some_iff.mp H
                              obtain ⟨t136, A600, H⟩ := H
                              replace H : (if (t121 == t136) = true then ((undercroftkit_ApartTexts.f (([t102, t106] : List (List ByteArray)))).bind fun t140 => (some t140)) else (some false)) = some r := H
                              have A60 := Aside0.mk A600
                              clear A600
                              by_cases c61 : (t121 == t136) = true
                              · rw [if_pos c61] at H
                                have c61b0 : (t121 == t136) = true := c61
                                (try (have c61b1 : decide (t121 = t136) = true := by simpa using c61))
                                (try (have c61b2 : (t121 == t136) = true := by simpa using c61))
                                clear c61
                                obtain ⟨y137, hy137⟩ : ∃ y_ : List (List ByteArray), y_ = (([t102, t106] : List (List ByteArray))) := ⟨_, rfl⟩
                                replace H : ((undercroftkit_ApartTexts.f y137).bind fun t140 => (some t140)) = some r := by first | (rw [hy137]; with_reducible exact H) | (have H2_ := (Option.bind_some _ _).symm.trans H; rw [hy137]; with_reducible exact H2_) | (have H2_ := (Option.bind_some _ _).symm.trans H; with_reducible exact H2_) | with_reducible exact H | (rw [hy137]; exact H) | exact H
                                have Ny137 := Aside0.mk hy137
                                clear hy137
                                replace H := Option.bind_eq_some_iff.mp H
                                obtain ⟨t140, A620, H⟩ := H
                                replace H : (some t140) = some r := H
                                have A62 := Aside0.mk A620
                                clear A620
                                obtain rfl := Option.some.inj H
                                obtain rfl : t140 = true := Hr_.out
                                first
                                | exact absurd Hr_.out (by decide)
                                | skip
                                  go_wp2_with (first | ((with_reducible refine gate_callee (f := 25) rfl ?_); refine goesL_ (some 100) rfl rfl Try.func25 (by kernel_rfl) rfl #[] rfl (by (try simp only [List.map_toArray, List.map_cons, List.map_nil]); first | done | rfl | (simp only [List.length_drop, List.length_take]; rfl)) ?_; (with_reducible refine (undercroftlaw20_lives.calls  true _ A55.out).mono ?_); rintro e w63 ⟨rfl, hb⟩; refine ⟨_, rfl, ?_⟩; have n0_ := Aside0.mk (Kd.R_below (by (with_reducible repeat (first | apply Kd.R_alloc | apply Kd.R_drewN | apply Kd.R_drew)); exact HO_5.out) hb); have n1_ := Aside0.mk (Kd.R_below (by (with_reducible repeat (first | apply Kd.R_alloc | apply Kd.R_drewN | apply Kd.R_drew)); exact HO_7.out) hb); have n2_ := Aside0.mk (below_step (by repeat (first | (with_reducible first | exact HB.out | apply below_alloc | apply pw_below_drewN | apply below_drew1) | exact HB.out)) hb); clear HO_5; clear HO_7; clear HB; have HO_5 := n0_; have HO_7 := n1_; have HB := n2_; clear n0_ n1_ n2_; (try clear hb); (try clear hb2); (try clear hk); (try clear hi)) | (go_at_call 23; (with_reducible refine (undercroftref20_Join.calls kj43 _ _ l1 t135 _ ?side1 ?side2 A58.out).mono ?_); (case side1 => repeat (first | exact (Kd.C_below HR1.out HB.out) | (with_reducible refine Kd.C_alloc ?_ _) | (with_reducible refine Kd.C_drewN ?_ _) | (with_reducible refine Kd.C_drew ?_))); (case side2 => exact HC1.out); rintro e w' ⟨rfl, ⟨nd, rfl⟩⟩) | (go_at_call 24; (with_reducible refine (undercroftref20_Special.calls _ _ l1 t136 _ ?side1 ?side2 A60.out).mono ?_); (case side1 => repeat (first | exact (Kd.C_below HR1.out (by repeat (first | (with_reducible first | exact HB.out | apply below_alloc | apply pw_below_drewN | apply below_drew1) | exact HB.out))) | (with_reducible refine Kd.C_alloc ?_ _) | (with_reducible refine Kd.C_drewN ?_ _) | (with_reducible refine Kd.C_drew ?_))); (case side2 => exact HC1.out); rintro e w' ⟨rfl, ⟨nd, rfl⟩⟩; obtain ⟨Ao64, co64, eo64⟩ := Kd.R_slice HO_5.out; subst eo64; obtain ⟨Ao65, co65, eo65⟩ := Kd.R_slice HO_7.out; subst eo65) | (go_at_call 26; (with_reducible refine (Apart.apart_two (by (with_reducible repeat (first | apply Kd.R_alloc | apply Kd.R_drewN | apply Kd.R_drew)); exact HO_5.out) (by (with_reducible repeat (first | apply Kd.R_alloc | apply Kd.R_drewN | apply Kd.R_drew)); exact HO_7.out) (fun _ hk => hk) (by repeat (first | (with_reducible first | exact HB.out | apply below_alloc | apply pw_below_drewN | apply below_drew1) | exact HB.out)) (Nat.le_refl _) ?side1 (undercroftkit_ApartTexts.small Ny137.out A62.out) _).mono ?_); (case side1 => first | rfl | simp); rintro e w69 ⟨rfl, hb⟩; have n1_ := Aside0.mk hb; clear HB; have HB := n1_; clear n1_ hb))
                                  go_ret
                                  exact ⟨by first | rfl | (simp [errW_none, errW_some] <;> rfl) | (simp [*, errW_none, errW_some] <;> rfl), by repeat (first | (with_reducible first | exact HB.out | apply below_alloc | apply pw_below_drewN | apply below_drew1) | exact HB.out)⟩
                              · rw [if_neg c61] at H
                                have c61b0 : (t121 == t136) = false := by simpa using c61
                                (try (have c61b1 : decide (t121 = t136) = false := by simpa using c61))
                                (try (have c61b2 : (t121 == t136) = false := by simpa using c61))
                                (try (have c61b3 : ¬ (t121 = t136) := by simpa using c61))
                                clear c61
                                obtain rfl := Option.some.inj H
                                first
                                | exact absurd Hr_.out (by decide)
                                | skip
                                  go_wp2_with (first | ((with_reducible refine gate_callee (f := 25) rfl ?_); refine goesL_ (some 100) rfl rfl Try.func25 (by kernel_rfl) rfl #[] rfl (by (try simp only [List.map_toArray, List.map_cons, List.map_nil]); first | done | rfl | (simp only [List.length_drop, List.length_take]; rfl)) ?_; (with_reducible refine (undercroftlaw20_lives.calls  true _ A55.out).mono ?_); rintro e w70 ⟨rfl, hb⟩; refine ⟨_, rfl, ?_⟩; have n0_ := Aside0.mk (Kd.R_below (by (with_reducible repeat (first | apply Kd.R_alloc | apply Kd.R_drewN | apply Kd.R_drew)); exact HO_5.out) hb); have n1_ := Aside0.mk (Kd.R_below (by (with_reducible repeat (first | apply Kd.R_alloc | apply Kd.R_drewN | apply Kd.R_drew)); exact HO_7.out) hb); have n2_ := Aside0.mk (below_step (by repeat (first | (with_reducible first | exact HB.out | apply below_alloc | apply pw_below_drewN | apply below_drew1) | exact HB.out)) hb); clear HO_5; clear HO_7; clear HB; have HO_5 := n0_; have HO_7 := n1_; have HB := n2_; clear n0_ n1_ n2_; (try clear hb); (try clear hb2); (try clear hk); (try clear hi)) | (go_at_call 23; (with_reducible refine (undercroftref20_Join.calls kj43 _ _ l1 t135 _ ?side1 ?side2 A58.out).mono ?_); (case side1 => repeat (first | exact (Kd.C_below HR1.out HB.out) | (with_reducible refine Kd.C_alloc ?_ _) | (with_reducible refine Kd.C_drewN ?_ _) | (with_reducible refine Kd.C_drew ?_))); (case side2 => exact HC1.out); rintro e w' ⟨rfl, ⟨nd, rfl⟩⟩) | (go_at_call 24; (with_reducible refine (undercroftref20_Special.calls _ _ l1 t136 _ ?side1 ?side2 A60.out).mono ?_); (case side1 => repeat (first | exact (Kd.C_below HR1.out (by repeat (first | (with_reducible first | exact HB.out | apply below_alloc | apply pw_below_drewN | apply below_drew1) | exact HB.out))) | (with_reducible refine Kd.C_alloc ?_ _) | (with_reducible refine Kd.C_drewN ?_ _) | (with_reducible refine Kd.C_drew ?_))); (case side2 => exact HC1.out); rintro e w' ⟨rfl, ⟨nd, rfl⟩⟩))
                                  go_ret
                                  exact ⟨by first | rfl | (simp [errW_none, errW_some] <;> rfl) | (simp [*, errW_none, errW_some] <;> rfl), by repeat (first | (with_reducible first | exact HB.out | apply below_alloc | apply pw_below_drewN | apply below_drew1) | exact HB.out)⟩
                            · rw [if_neg c59] at H
                              have c59b0 : (t120.toList == t135.toList) = false := beq_eq_false_iff_ne.mpr c59
                              have c59b1 : (t120.toList != t135.toList) = true := bne_iff_ne.mpr c59
                              obtain rfl := Option.some.inj H
                              first
                              | exact absurd Hr_.out (by decide)
                              | skip
                                go_wp2_with (first | ((with_reducible refine gate_callee (f := 25) rfl ?_); refine goesL_ (some 100) rfl rfl Try.func25 (by kernel_rfl) rfl #[] rfl (by (try simp only [List.map_toArray, List.map_cons, List.map_nil]); first | done | rfl | (simp only [List.length_drop, List.length_take]; rfl)) ?_; (with_reducible refine (undercroftlaw20_lives.calls  true _ A55.out).mono ?_); rintro e w71 ⟨rfl, hb⟩; refine ⟨_, rfl, ?_⟩; have n0_ := Aside0.mk (Kd.R_below (by (with_reducible repeat (first | apply Kd.R_alloc | apply Kd.R_drewN | apply Kd.R_drew)); exact HO_5.out) hb); have n1_ := Aside0.mk (Kd.R_below (by (with_reducible repeat (first | apply Kd.R_alloc | apply Kd.R_drewN | apply Kd.R_drew)); exact HO_7.out) hb); have n2_ := Aside0.mk (below_step (by repeat (first | (with_reducible first | exact HB.out | apply below_alloc | apply pw_below_drewN | apply below_drew1) | exact HB.out)) hb); clear HO_5; clear HO_7; clear HB; have HO_5 := n0_; have HO_7 := n1_; have HB := n2_; clear n0_ n1_ n2_; (try clear hb); (try clear hb2); (try clear hk); (try clear hi)) | (go_at_call 23; (with_reducible refine (undercroftref20_Join.calls kj43 _ _ l1 t135 _ ?side1 ?side2 A58.out).mono ?_); (case side1 => repeat (first | exact (Kd.C_below HR1.out HB.out) | (with_reducible refine Kd.C_alloc ?_ _) | (with_reducible refine Kd.C_drewN ?_ _) | (with_reducible refine Kd.C_drew ?_))); (case side2 => exact HC1.out); rintro e w' ⟨rfl, ⟨nd, rfl⟩⟩))
                                go_ret
                                exact ⟨by first | rfl | (simp [errW_none, errW_some] <;> rfl) | (simp [*, errW_none, errW_some] <;> rfl), by repeat (first | (with_reducible first | exact HB.out | apply below_alloc | apply pw_below_drewN | apply below_drew1) | exact HB.out)⟩
                          · replace c57 := Bool.eq_false_iff.mpr c57
                            subst c57
                            have H1 : (some false) = some r := by rw [if_neg (show ¬ (false = true) by decide)] at H; exact H
                            clear H
                            have H := H1
                            clear H1
                            obtain rfl := Option.some.inj H
                            first
                            | exact absurd Hr_.out (by decide)
                            | skip
                              go_wp2_with (first | ((with_reducible refine gate_callee (f := 25) rfl ?_); refine goesL_ (some 100) rfl rfl Try.func25 (by kernel_rfl) rfl #[] rfl (by (try simp only [List.map_toArray, List.map_cons, List.map_nil]); first | done | rfl | (simp only [List.length_drop, List.length_take]; rfl)) ?_; (with_reducible refine (undercroftlaw20_lives.calls  true _ A55.out).mono ?_); rintro e w72 ⟨rfl, hb⟩; refine ⟨_, rfl, ?_⟩; have n0_ := Aside0.mk (Kd.R_below (by (with_reducible repeat (first | apply Kd.R_alloc | apply Kd.R_drewN | apply Kd.R_drew)); exact HO_5.out) hb); have n1_ := Aside0.mk (Kd.R_below (by (with_reducible repeat (first | apply Kd.R_alloc | apply Kd.R_drewN | apply Kd.R_drew)); exact HO_7.out) hb); have n2_ := Aside0.mk (below_step (by repeat (first | (with_reducible first | exact HB.out | apply below_alloc | apply pw_below_drewN | apply below_drew1) | exact HB.out)) hb); clear HO_5; clear HO_7; clear HB; have HO_5 := n0_; have HO_7 := n1_; have HB := n2_; clear n0_ n1_ n2_; (try clear hb); (try clear hb2); (try clear hk); (try clear hi)))
                              go_ret
                              exact ⟨by first | rfl | (simp [errW_none, errW_some] <;> rfl) | (simp [*, errW_none, errW_some] <;> rfl), by repeat (first | (with_reducible first | exact HB.out | apply below_alloc | apply pw_below_drewN | apply below_drew1) | exact HB.out)⟩
                        · replace c56 := Bool.eq_false_iff.mpr c56
                          subst c56
                          have H1 : (some false) = some r := by rw [if_neg (show ¬ (false = true) by decide)] at H; exact H
                          clear H
                          have H := H1
                          clear H1
                          obtain rfl := Option.some.inj H
                          first
                          | exact absurd Hr_.out (by decide)
                          | skip
                            go_wp2_with (first | ((with_reducible refine gate_callee (f := 25) rfl ?_); refine goesL_ (some 100) rfl rfl Try.func25 (by kernel_rfl) rfl #[] rfl (by (try simp only [List.map_toArray, List.map_cons, List.map_nil]); first | done | rfl | (simp only [List.length_drop, List.length_take]; rfl)) ?_; (with_reducible refine (undercroftlaw20_lives.calls  false _ A55.out).mono ?_); rintro e w73 ⟨rfl, hb⟩; refine ⟨_, rfl, ?_⟩; have n0_ := Aside0.mk (Kd.R_below (by (with_reducible repeat (first | apply Kd.R_alloc | apply Kd.R_drewN | apply Kd.R_drew)); exact HO_5.out) hb); have n1_ := Aside0.mk (Kd.R_below (by (with_reducible repeat (first | apply Kd.R_alloc | apply Kd.R_drewN | apply Kd.R_drew)); exact HO_7.out) hb); have n2_ := Aside0.mk (below_step (by repeat (first | (with_reducible first | exact HB.out | apply below_alloc | apply pw_below_drewN | apply below_drew1) | exact HB.out)) hb); clear HO_5; clear HO_7; clear HB; have HO_5 := n0_; have HO_7 := n1_; have HB := n2_; clear n0_ n1_ n2_; (try clear hb); (try clear hb2); (try clear hk); (try clear hi)))
                            go_ret
                            exact ⟨by first | rfl | (simp [errW_none, errW_some] <;> rfl) | (simp [*, errW_none, errW_some] <;> rfl), by repeat (first | (with_reducible first | exact HB.out | apply below_alloc | apply pw_below_drewN | apply below_drew1) | exact HB.out)⟩
      · rw [if_neg c9] at H
        exact absurd H (by simp)
    · rw [if_neg c8] at H
      exact absurd H (by simp)

end Go.Proofs.Ytochgkepaleblaa.Calls
