/- ModelNone: the rest of a round of its loop changes nothing that matters: the kernel reckons it. No conditions. -/
import Derived.KernelRfl
import Derived.Test.YtpochibfjpanhaaGreatFx
import Derived.Test.YtpochibfjpanhaaGreatZp
namespace Go.Proofs.YtpochibfjpanhaaGreat.Exe
open Go Go.Proofs
noncomputable def opZ : Opt := { first := false, ext := [], memo := [], mg := [], guess := fun _ _ _ _ _ => none }
noncomputable def sR : Code → Code | .seq _ b => b | c => c
noncomputable def sL : Code → Code | .seq a _ => a | c => c
noncomputable def bB : Code → Code | .block _ b => b | .loop b => b | c => c
noncomputable def piece : Code := sR (sR (sR (bB (sL (sR (bB (bB (sR (sL (sR (sR (sR (Tryz.f3.body.getD .skip)))))))))))))
noncomputable def oM : AObj := .cells 32 (sizeT Tryz.prog 32) ((zeroOf Tryz.prog 32).getD [])
noncomputable def S1 (c0 c1 c2 c3 c4 c5 c6 : Value) : AS := { heap := (HT.nil.setK (some oM) 0).setK (some (.cells 37 7 [.lit c0, .lit c1, .lit c2, .lit c3, .lit c4, .lit c5, .lit c6])) 1, next := 2 }
noncomputable def t1 (v0 : Value) (n : Int) : T := ((((((((T.nil.setP (.lit v0) (pathOf 0)).setP (.ptr 0 0) (pathOf 3)).setP (.bool true) (pathOf 4)).setP (.int .i64 n) (pathOf 5)).setP (.ptr 1 0) (pathOf 6)).setP .pnil (pathOf 7)).setP (.tup []) (pathOf 1)).setP (.bool true) (pathOf 13)).setP (.tup []) (pathOf 85)
/-- Is nothing put off? -/
noncomputable def noPutK (t : TC) (k : Bool → R) : R := t fun _ _ _ _ _ _ _ _ _ _ _ _ _ _ _ _ _ d => k (List.rec (motive := fun _ => Bool) true (fun _ _ _ => false) d)
theorem noPutK_eq (t : T) (k : Bool → R) : noPutK (enc t) k = k (List.rec (motive := fun _ => Bool) true (fun _ _ _ => false) t.off) := rfl
noncomputable def kk : KXF := fun x t S' => noPutK t fun nd => ifB nd ( AX.rec (motive := fun _ => R) (getF (pathOf 0) t fun a => getF (pathOf 3) t fun b => getF (pathOf 4) t fun c => getF (pathOf 5) t fun d => getF (pathOf 1) t fun e => getF (pathOf 13) t fun f => getF (pathOf 85) t fun g => ifB (Option.rec (motive := fun _ => Bool) false (fun o => isoO Nat.beq o oM) (S'.heap.getK 0)) (some (.tup [a, b, c, d, e, f, g], none)) none) none (fun _ => none) x) none
set_option maxRecDepth 100000 in
set_option maxHeartbeats 4000000 in
theorem pr (v0 c0 c1 c2 c3 c4 c5 c6 : Value) (n : Int) : runAF (comp Tryz.prog false 86 piece) (sndF (bothF FT cp opZ 1000)) (fstF (bothF FT cp opZ 1000)) (enc (t1 v0 n)) (S1 c0 c1 c2 c3 c4 c5 c6) kk = some (.tup [.lit v0, .ptr 0 0, .bool true, .int .i64 n, .tup [], .bool true, .tup []], none) := by kernel_rfl

noncomputable def S0 : AS := { heap := HT.nil.setK (some oM) 0, next := 1 }
theorem opZOK : OptOK Tryz.prog opZ := ⟨rfl, ext_nil⟩
theorem piece_run (v0 c0 c1 c2 c3 c4 c5 c6 : Value) (n : Int) : runA (comp Tryz.prog false 86 piece) (both (tabOf Tryz.prog Tryz.prog.funcs.toList 0 .nil) (comp Tryz.prog true) opZ 1000).2 (both (tabOf Tryz.prog Tryz.prog.funcs.toList 0 .nil) (comp Tryz.prog true) opZ 1000).1 (t1 v0 n) (S1 c0 c1 c2 c3 c4 c5 c6) (fun x t S => kk x (enc t) S) = some (.tup [.lit v0, .ptr 0 0, .bool true, .int .i64 n, .tup [], .bool true, .tup []], none) := by
  have h := pr v0 c0 c1 c2 c3 c4 c5 c6 n
  rw [table, coded] at h
  obtain ⟨h1, h2⟩ := bothF_eq (tabOf Tryz.prog Tryz.prog.funcs.toList 0 .nil) (comp Tryz.prog true) opZ 1000
  have e1 : fstF (bothF (tabOf Tryz.prog Tryz.prog.funcs.toList 0 .nil) (comp Tryz.prog true) opZ 1000) = (bothF (tabOf Tryz.prog Tryz.prog.funcs.toList 0 .nil) (comp Tryz.prog true) opZ 1000).1 := rfl
  have e2 : sndF (bothF (tabOf Tryz.prog Tryz.prog.funcs.toList 0 .nil) (comp Tryz.prog true) opZ 1000) = (bothF (tabOf Tryz.prog Tryz.prog.funcs.toList 0 .nil) (comp Tryz.prog true) opZ 1000).2 := rfl
  rw [e1, e2, h2] at h
  rw [runAF_eq h1] at h
  exact h
theorem kk_some {x : AX} {t : T} {S' : AS} {z : AV × Option AS} (h : kk x (enc t) S' = some z) : t.off = [] ∧ x = .normal ∧ (∃ o, S'.heap.getK 0 = some o ∧ o = oM) ∧ z = (.tup [evTmp (pathOf 0) t, evTmp (pathOf 3) t, evTmp (pathOf 4) t, evTmp (pathOf 5) t, evTmp (pathOf 1) t, evTmp (pathOf 13) t, evTmp (pathOf 85) t], none) := by
  have h : noPutK (enc t) _ = some z := h
  rw [noPutK_eq] at h
  obtain ⟨h9, h⟩ := ifB_some h
  have h9 : t.off = [] := by
    generalize t.off = l at h9
    cases l with
    | nil => rfl
    | cons _ _ => cases h9
  refine ⟨h9, ?_⟩
  cases x with
  | ret => cases h
  | exit i => cases h
  | normal =>
    have h : getF (pathOf 0) (enc t) (fun a => getF (pathOf 3) (enc t) fun b => getF (pathOf 4) (enc t) fun c => getF (pathOf 5) (enc t) fun d => getF (pathOf 1) (enc t) fun e => getF (pathOf 13) (enc t) fun f => getF (pathOf 85) (enc t) fun g => ifB (Option.rec (motive := fun _ => Bool) false (fun o => isoO Nat.beq o oM) (S'.heap.getK 0)) (some ((.tup [a, b, c, d, e, f, g] : AV), (none : Option AS))) none) = some z := h
    simp only [getF_eq] at h
    obtain ⟨h1, h2⟩ := ifB_some h
    refine ⟨rfl, ?_, (Option.some.inj h2).symm⟩
    cases ho : S'.heap.getK 0 with
    | none => rw [ho] at h1; cases h1
    | some o => rw [ho] at h1; exact ⟨o, rfl, isoO_eq (fun a b h => beq_true h) h1⟩
/-- The rest of a round: nothing that matters has turned. -/
theorem rest {base w : World} {ρ : Rho} {a : Act} {v0 c0 c1 c2 c3 c4 c5 c6 : Value} {n : Int} {Q : Exit → Act → World → Prop} (hr : RelA base ρ (S1 c0 c1 c2 c3 c4 c5 c6) w (t1 v0 n) a 86)
    (hQ : ∀ a' w' ρ', WRel base ρ' S0 w' → (∃ r x, ρ 0 = some (r, x) ∧ ρ' 0 = some (r, x)) → a'.tmps.size = 86 → a'.defers = [] → Den ρ' (.lit v0) (a'.tmps.getD 0 undef) → Den ρ' (.ptr 0 0) (a'.tmps.getD 3 undef) → Den ρ' (.bool true) (a'.tmps.getD 4 undef) → Den ρ' (.int .i64 n) (a'.tmps.getD 5 undef) → Den ρ' (.tup []) (a'.tmps.getD 1 undef) → Den ρ' (.bool true) (a'.tmps.getD 13 undef) → Den ρ' (.tup []) (a'.tmps.getD 85 undef) → Q .normal a' w') : piece.wp Tryz.prog Q a w := by
  refine code_at opZOK memo_nil orders names (m := 1000) (n := 86) (N := 86) (Nat.le_refl _) piece hr (piece_run v0 c0 c1 c2 c3 c4 c5 c6 n) fun x t' S' ρ' a' w' h1 h2 h3 h4 => ?_
  obtain ⟨hof, rfl, ⟨o, ho, rfl⟩, hz⟩ := kk_some h1
  have hdd : a'.defers = [] := by
    have d := h4.defers
    rw [hof] at d
    generalize a'.defers = dd at d ⊢
    cases d
    rfl
  have hz := (Prod.mk.inj hz).1
  injection hz with hz
  injection hz with z0 hz
  injection hz with z3 hz
  injection hz with z4 hz
  injection hz with z5 hz
  injection hz with z1 hz
  injection hz with z13 hz
  injection hz with z85 hz
  have d3 := h4.tmps 3
  rw [← z3] at d3
  have hp : ∃ r x, ρ 0 = some (r, x) ∧ ρ' 0 = some (r, x) := by
    have d := hr.tmps 3
    have e3 : evTmp (pathOf 3) (t1 v0 n) = .ptr 0 0 := rfl
    rw [e3] at d
    generalize a.tmps.getD 3 undef = u at d
    cases d with
    | @ptr _ _ r x h => exact ⟨r, x, h, h2 _ _ h⟩
  refine hQ a' w' (fun b => if b = 0 then ρ' 0 else none) ?_ ?_ h4.size hdd ?_ ?_ ?_ ?_ ?_ ?_ ?_
  · have hw := h4.world
    refine { low := hw.low, size := hw.size, os := hw.os, output := hw.output, tape := hw.tape, dom := fun b hb => ?_, rng := fun b r x e => ?_, inj := fun b c r x y _ _ eb ec => ?_, obj := fun b ob r x hb e => ?_ }
    · have hb : 1 ≤ b := hb
      show (if b = 0 then ρ' 0 else none) = none
      rw [if_neg (by omega)]
    · have e : (if b = 0 then ρ' 0 else none) = some (r, x) := e
      by_cases h0 : b = 0
      · rw [if_pos h0] at e; exact hw.rng 0 r x e
      · rw [if_neg h0] at e; cases e
    · have eb : (if b = 0 then ρ' 0 else none) = some (r, x) := eb
      have ec : (if c = 0 then ρ' 0 else none) = some (r, y) := ec
      by_cases h0 : b = 0
      · by_cases h1 : c = 0
        · omega
        · rw [if_neg h1] at ec; cases ec
      · rw [if_neg h0] at eb; cases eb
    · have e : (if b = 0 then ρ' 0 else none) = some (r, x) := e
      by_cases h0 : b = 0
      · subst h0
        rw [if_pos rfl] at e
        have e1 : S0.heap.getK 0 = some oM := rfl
        rw [e1] at hb
        cases hb
        obtain ⟨u, hu, ho2⟩ := hw.obj 0 _ r x ho e
        refine ⟨u, hu, ?_⟩
        exact (isoO_rel (A := fun _ _ => false) (ρ2 := fun b => if b = 0 then ρ' 0 else none) (ρ' := ρ') (fun a b h => (by cases h)) (by kernel_rfl) ho2)
      · rw [if_neg h0] at e; cases e
  · obtain ⟨r, x, h5, h6⟩ := hp
    exact ⟨r, x, h5, by show (if (0 : Nat) = 0 then ρ' 0 else none) = _; rw [if_pos rfl]; exact h6⟩
  · have d := h4.tmps 0
    rw [← z0] at d
    cases d with
    | lit a b => exact .lit a b
  · generalize a'.tmps.getD 3 undef = u at d3
    cases d3 with
    | ptr h => exact .ptr (by show (if (0 : Nat) = 0 then ρ' 0 else none) = _; rw [if_pos rfl]; exact h)
  · have d := h4.tmps 4
    rw [← z4] at d
    generalize a'.tmps.getD 4 undef = u at d ⊢
    cases d
    exact .bool _
  · have d := h4.tmps 5
    rw [← z5] at d
    generalize a'.tmps.getD 5 undef = u at d ⊢
    cases d
    exact .int _ _
  · have d := h4.tmps 1
    rw [← z1] at d
    generalize a'.tmps.getD 1 undef = u at d ⊢
    cases d
    exact .tup (by rename_i hh; cases hh; exact .nil)
  · have d := h4.tmps 13
    rw [← z13] at d
    generalize a'.tmps.getD 13 undef = u at d ⊢
    cases d
    exact .bool _
  · have d := h4.tmps 85
    rw [← z85] at d
    generalize a'.tmps.getD 85 undef = u at d ⊢
    cases d
    exact .tup (by rename_i hh; cases hh; exact .nil)
end Go.Proofs.YtpochibfjpanhaaGreat.Exe
