/- A part of the machine that reckons a closed run, and of the proof that what it says the given program does. No conditions. -/
import Derived.Test.YtoldaakppnbhjaaGreatYo
set_option linter.unusedVariables false
set_option linter.unusedSimpArgs false
namespace Go.Proofs.YtoldaakppnbhjaaGreat.Exe
open Go
variable {base w : World} {P : Program} {ρ : Rho} {S : AS} {t : T} {c : K} {z : AV × AS} {a : Act}

/-! ### Results -/
theorem run_loadVar_of {ty : TypeId} {p : List D4} {n m : Nat} {v : AV × AS} (hm : p = pathOf m) (hk : known P ty = true) (hn : n = sizeT P ty) (ht : TRel ρ t a) (hw : WRel base ρ S w) (h : kLoad (aggT P ty) n (.tmp p) t S (fun v S => some (v, S)) = some v) :
    ∃ ad u, a.tmps.getD m undef = .pointer (some ad) ∧ (loadVar ty ad).run P w = .ok u w ∧ Den ρ v.1 u := by
  subst hm; subst hn
  obtain ⟨d, hd, hsz⟩ := known_some hk
  obtain ⟨b, off, hv, h⟩ := onPtr_some h
  obtain ⟨el, es, cs, hb, h⟩ := onCells_some h
  obtain ⟨v', hval, h⟩ := retO_some h
  cases h
  have hdx := ht m
  have hv : evTmp (pathOf m) t = .ptr b off := hv
  rw [hv] at hdx
  generalize hex : a.tmps.getD m undef = ex at hdx
  cases hdx with
  | @ptr _ _ r x' hρ =>
    obtain ⟨us, tail, fz, hh, hc, _, _⟩ := hw.cells hb hρ
    rcases valueK_some hc hval with ⟨ha, hlen, hden⟩ | ⟨ha, u, hu, hden, _⟩
    · obtain ⟨d', hd', hrow⟩ := aggT_true ha
      have hr := rangeAt_of hh off (sizeT P ty)
      have e1 : ((us ++ tail).drop off).take (sizeT P ty) = (us.drop off).take (sizeT P ty) := by
        rw [List.drop_append_of_le_length (by omega), List.take_append_of_le_length (by rw [List.length_drop]; omega)]
      rw [e1] at hr
      have hl : ((us.drop off).take (sizeT P ty)).length = sizeT P ty := by rw [List.length_take, List.length_drop]; omega
      exact ⟨_, _, rfl, run_loadVar_mid (P := P) w r off ty _ d' hr hd' hrow (by rw [hl]; exact hsz), hden⟩
    · have hcell : w.cell? ⟨r, off, none⟩ = some u := cell?_of hh (by rw [List.getElem?_append_left (by rcases Nat.lt_or_ge off us.length with h' | h'; exact h'; rw [List.getElem?_eq_none h'] at hu; cases hu)]; exact hu)
      exact ⟨_, u, rfl, by simp [loadVar, run_isAgg_false hd ha, load, Sem.run, hcell], hden⟩

theorem resK_cons (t : T) (S : AS) (p : List D4 × Option (Bool × Nat)) (l : List (List D4 × Option (Bool × Nat))) : resK t S (p :: l) = Option.rec (onSome (resK t S l) fun r => some (evTmp p.1 t :: r)) (fun q => onSome (kLoad q.1 q.2 (.tmp p.1) t S fun v S => some (v, S)) fun v => onSome (resK t S l) fun r => some (v.1 :: r)) p.2 := rfl

def resOne (tmps : Array Value) : ResultVar → Sem Value
  | .tmp t => pure (tmps.getD t undef)
  | .cell ad t => do loadVar t (← asAddr (tmps.getD ad undef))
theorem results_list (ht : TRel ρ t a) (hw : WRel base ρ S w) : ∀ (l : List ResultVar) (vs : List AV), (l.all (fun r => match r with | .tmp _ => true | .cell _ t => known P t)) = true → resK t S (l.map fun | .tmp t => (pathOf t, none) | .cell a t => (pathOf a, some (aggT P t, sizeT P t))) = some vs →
    ∃ us, DenL ρ vs us ∧ (l.mapM (resOne a.tmps)).run P w = .ok us w
  | [], vs, _, h => by
    cases h
    exact ⟨[], .nil, rfl⟩
  | .tmp n :: l, vs, hk, h => by
    rw [List.map_cons, resK_cons] at h
    obtain ⟨r, hr, h⟩ := onSome_some (show onSome (resK t S _) (fun r => some (evTmp (pathOf n) t :: r)) = some vs from h)
    cases h
    obtain ⟨us, hd, hrun⟩ := results_list ht hw l r (by simpa using hk) hr
    refine ⟨a.tmps.getD n undef :: us, .cons (ht n) hd, ?_⟩
    rw [List.mapM_cons]
    simp [resOne, hrun]
  | .cell ad ty :: l, vs, hk, h => by
    rw [List.map_cons, resK_cons] at h
    obtain ⟨v, hv, h⟩ := onSome_some (show onSome (kLoad (aggT P ty) (sizeT P ty) (.tmp (pathOf ad)) t S fun v S => some (v, S)) (fun v => onSome (resK t S _) fun r => some (v.1 :: r)) = some vs from h)
    obtain ⟨r, hr, h⟩ := onSome_some h
    cases h
    rw [List.all_cons, Bool.and_eq_true] at hk
    obtain ⟨us, hd, hrun⟩ := results_list ht hw l r hk.2 hr
    obtain ⟨adr, u, h1, h2, h3⟩ := run_loadVar_of (n := sizeT P ty) rfl hk.1 rfl ht hw hv
    refine ⟨u :: us, .cons h3 hd, ?_⟩
    rw [List.mapM_cons]
    simp [resOne, hrun, h1, h2, asAddr]

theorem oneK_den {vs : List AV} {us : List Value} (h : DenL ρ vs us) : Den ρ (oneK vs) (if h : us.toArray.size = 1 then us.toArray[0] else .tuple us.toArray) := by
  cases h with
  | nil => exact .tup .nil
  | @cons v u vs us hv h =>
    cases h with
    | nil => exact hv
    | @cons v2 u2 vs us hv2 h =>
      have : ¬ (u :: u2 :: us).toArray.size = 1 := by simp
      rw [dif_neg this]
      exact .tup (.cons hv (.cons hv2 h))

theorem results_run {fn : Func} (ht : TRel ρ t a) (hw : WRel base ρ S w) {vs : List AV} (hk : (fn.results.toList.all (fun r => match r with | .tmp _ => true | .cell _ t => known P t)) = true) (h : resK t S (fn.results.toList.map fun | .tmp t => (pathOf t, none) | .cell a t => (pathOf a, some (aggT P t, sizeT P t))) = some vs) :
    ∃ u, Den ρ (oneK vs) u ∧ (results fn a.tmps).run P w = .ok u w := by
  obtain ⟨us, hd, hrun⟩ := results_list ht hw _ _ hk h
  refine ⟨_, oneK_den hd, ?_⟩
  have e1 : results fn a.tmps = (do let vs ← fn.results.mapM (resOne a.tmps); pure (if h : vs.size = 1 then vs[0] else .tuple vs)) := by
    unfold results
    rfl
  rw [e1, Array.mapM_eq_mapM_toList]
  simp [hrun]

/-! ### Calls -/
theorem args_rel : ∀ (vs : List AV) (us : List Value) (n : Nat) (t : T) (f : Nat → Value), DenL ρ vs us → (∀ m, Den ρ (evTmp (pathOf m) t) (f m)) → ∀ m, Den ρ (evTmp (pathOf m) (argsK vs n t)) (if n ≤ m ∧ m < n + us.length then us.getD (m - n) undef else f m)
  | [], us, n, t, f, h, hf, m => by
    cases h
    rw [if_neg (by simp)]
    exact hf m
  | v :: vs, us, n, t, f, h, hf, m => by
    cases h with
    | @cons _ u _ us hv h =>
      show Den ρ (evTmp (pathOf m) (argsK vs (n + 1) (T.setP v (pathOf n) t))) _
      have ih := args_rel vs us (n + 1) (T.setP v (pathOf n) t) (fun m => if m = n then u else f m) h (fun m => by
        by_cases hm : m = n
        · subst hm; rw [evTmp_put, if_pos rfl]; exact hv
        · rw [evTmp_put_ne hm, if_neg hm]; exact hf m) m
      by_cases h1 : n + 1 ≤ m ∧ m < n + 1 + us.length
      · rw [if_pos h1] at ih
        rw [if_pos (by simp; omega)]
        obtain ⟨j, hj⟩ : ∃ j, m - n = j + 1 := ⟨m - n - 1, by omega⟩
        rw [hj]
        rw [show m - (n + 1) = j by omega] at ih
        exact ih
      · rw [if_neg h1] at ih
        by_cases hm : m = n
        · subst hm
          rw [if_pos rfl] at ih
          rw [if_pos (by simp), Nat.sub_self]
          exact ih
        · rw [if_neg hm] at ih
          rw [if_neg (by simp; omega)]
          exact ih
def FTOk (P : Program) (FT : PT AF) : Prop := ∀ g af, FT.getK g = some af → ∃ fn, P.funcs[g]? = some fn ∧ compFn P fn = some af

theorem call_ok {FT : PT AF} {ag : Ag} {cl : Cl} {m : Nat} (hF : FTOk P FT) (hm : P.follows .mixedOrders = true) (hN : NamesOk P) (hcl : ClOK P cl) (hag : AgOK P ag m) : ClOK P (callOf FT ag cl) := by
  intro base ρ S w g args us k z R hw hl h hR
  rw [callOf_eq] at h
  obtain ⟨af, haf, h⟩ := onSome_some h
  obtain ⟨fn, hfn, hc⟩ := hF g af haf
  obtain ⟨c, hb, hc⟩ := bind_some hc
  obtain ⟨hk, hc⟩ := bif_some hc
  cases hc
  refine ⟨?_, fn, hfn, by rw [hb]; rfl⟩
  refine calls_of_wp hfn hb ?_
  let a0 : Act := { tmps := us.toArray ++ Array.replicate (fn.ntmps - us.toArray.size) undef, defers := [] }
  have hsz : fn.ntmps ≤ a0.tmps.size := by show _ ≤ (us.toArray ++ Array.replicate _ _).size; simp; omega
  have htr : TRel ρ (argsK args 0 T.nil) a0 := fun n => by
    have := args_rel args us 0 T.nil (fun _ => undef) hl (fun m => by rw [nil_get]; exact .junk _) n
    have e2 : a0.tmps.getD n undef = if 0 ≤ n ∧ n < 0 + us.length then us.getD (n - 0) undef else undef := by
      show (us.toArray ++ Array.replicate (fn.ntmps - us.toArray.size) undef).getD n undef = _
      by_cases hn : n < us.length
      · rw [if_pos (by omega), Array.getD_eq_getD_getElem?, Array.getElem?_append_left (by simpa using hn)]
        simp
      · rw [if_neg (by omega), Array.getD_eq_getD_getElem?, Array.getElem?_append_right (by simpa using hn), Array.getElem?_replicate]
        split <;> rfl
    rw [e2]
    exact this
  refine code_wp (N := a0.tmps.size) hm hN hcl hag hsz c ρ S w _ a0 _ _ ⟨hw, htr, rfl, rfl⟩ h fun x t' S' ρ' a' w' h1 h2 h3 h4 => ?_
  have fin : endK _ k t' S' = some z → a'.defers = [] ∧ ∃ v, (results fn a'.tmps).run P w' = .ok v w' ∧ R (.returned v) w' := fun h => by
    obtain ⟨vs, hvs, h⟩ := onSome_some h
    obtain ⟨u, hu, hrun⟩ := results_run h4.tmps h4.world hk hvs
    exact ⟨h4.defers, u, hrun, hR _ _ _ _ _ h h2 h3 h4.world hu⟩
  cases x with
  | normal => exact fin h1
  | ret => exact fin h1
  | exit i => cases h1

theorem both_ok {FT : PT AF} (hF : FTOk P FT) (hm : P.follows .mixedOrders = true) (hN : NamesOk P) : ∀ n, AgOK P (both FT n).1 n ∧ ClOK P (both FT n).2
  | 0 => ⟨fun _ _ _ _ _ _ _ _ _ _ _ _ _ _ h => (by cases h), fun _ _ _ _ _ _ _ _ _ _ _ _ h => (by cases h)⟩
  | n + 1 => by
    obtain ⟨h1, h2⟩ := both_ok hF hm hN n
    refine ⟨fun k N base b ρ S w t a kx z Q hn hr h hq => ?_, call_ok hF hm hN h2 h1⟩
    exact loop_round h1 hn (code_wp hm hN h2 h1 hn b) hr h hq

/-! ### The table -/
theorem tabOf_get : ∀ (l : List Func) (n : Nat) (t : PT AF) (g : Nat) (af : AF), (tabOf P l n t).getK g = some af → t.getK g = some af ∨ ∃ i fn, g = n + i ∧ l[i]? = some fn ∧ compFn P fn = some af
  | [], n, t, g, af, h => .inl h
  | f :: l, n, t, g, af, h => by
    have h : (tabOf P l (n + 1) (Option.rec t (fun a => t.setK (some a) n) (compFn P f))).getK g = some af := h
    rcases tabOf_get l (n + 1) _ g af h with h1 | ⟨i, fn, h1, h2, h3⟩
    · cases hc : compFn P f with
      | none => rw [hc] at h1; exact .inl h1
      | some a =>
        rw [hc] at h1
        rcases PT.getK_setK _ _ _ h1 with ⟨e1, e2⟩ | ⟨_, e2⟩
        · exact .inr ⟨0, f, e1, rfl, by rw [hc]; exact e2⟩
        · exact .inl e2
    · exact .inr ⟨i + 1, fn, by omega, by simpa using h2, h3⟩
theorem tabOf_ok : FTOk P (tabOf P P.funcs.toList 0 .nil) := fun g af h => by
  rcases tabOf_get _ _ _ _ _ h with h1 | ⟨i, fn, h1, h2, h3⟩
  · cases h1
  · subst h1
    exact ⟨fn, by rw [Nat.zero_add, ← Array.getElem?_toList]; exact h2, h3⟩

noncomputable def start : AS := { heap := .nil, next := 0 }
/-- What is asked of a run's end: true. -/
noncomputable def fin : K := fun v _ => onBool v fun b => ifB b (some (.bool true, start)) none
/-- **What our machine says of a function without arguments, its run does.** -/
theorem exec {g : FuncId} {n : Nat} (hm : P.follows .mixedOrders = true) (hN : NamesOk P) (h : sndK (both (tabOf P P.funcs.toList 0 .nil) n) g [] start fin = some (.bool true, start)) (w : World) :
    Calls P g #[] w fun e w' => (e = .returned (.bool true)) ∧ (∀ r, r < w.heap.size → w'.heap[r]? = w.heap[r]?) ∧ w.heap.size ≤ w'.heap.size ∧ w'.os = w.os ∧ w'.output = w.output ∧ w'.tape = w.tape := by
  have hw : WRel w (fun _ => none) start w :=
    { low := fun _ _ => rfl, size := Nat.le_refl _, os := rfl, output := rfl, tape := rfl, dom := fun _ _ => rfl, rng := fun _ _ _ h => (by cases h), inj := fun _ _ _ _ _ _ _ h => (by cases h), obj := fun _ _ _ _ h => (by cases h) }
  exact ((both_ok tabOf_ok hm hN n).2 w _ _ w g [] [] _ _ _ hw .nil h fun v S' ρ' w' u h1 _ _ h4 h5 => by
    obtain ⟨b, hb, h1⟩ := onBool_some (show onBool v (fun b => ifB b (some ((.bool true : AV), start)) none) = some (.bool true, start) from h1)
    obtain ⟨hb', _⟩ := ifB_some h1
    rw [hb, hb'] at h5
    cases h5
    exact ⟨rfl, h4.low, h4.size, h4.os, h4.output, h4.tape⟩).1
end Go.Proofs.YtoldaakppnbhjaaGreat.Exe
