/- A part of the machine that reckons a closed run, and of the proof that what it says the given program does. No conditions. -/
import Derived.Test.YtoldaakppnbhjaaGreatYn
set_option linter.unusedVariables false
set_option linter.unusedSimpArgs false
namespace Go.Proofs.YtoldaakppnbhjaaGreat.Exe
open Go
variable {base w : World} {P : Program} {ρ : Rho} {S : AS} {t : T} {o : Oper} {c : K} {z : AV × AS} {a : Act}
variable {ops : Array Oper} {N : Nat}

/-! ### What is looked at when a region is compiled -/
theorem ancOk_at {os : List Oper} {anc : List Nat} : ∀ {n : Nat}, ancOk os anc n = true → ∀ i o, i < n → os[i]? = some o → (o.after.toList.all fun e => !Region.binds .any e || Nat.blt e.on i) = true ∧ subN (anc.getD i 0) (ancNow anc o) = true
  | 0, _, _, _, h, _ => by omega
  | n + 1, h, i, o, hi, ho => by
    unfold ancOk at h
    rw [Bool.and_eq_true] at h
    by_cases hin : i = n
    · subst hin
      rw [ho] at h
      simpa using h.1
    · exact ancOk_at h.2 i o (by omega) ho

theorem ancNow_test {anc : List Nat} : ∀ (l : List Edge) (m j : Nat), (l.foldl (fun m e => bif Region.binds .any e then m ||| (bitN e.on ||| anc.getD e.on 0) else m) m).testBit j = true → m.testBit j = true ∨ ∃ e ∈ l, Region.binds .any e = true ∧ (j = e.on ∨ Anc anc e.on j)
  | [], m, j, h => .inl h
  | e :: l, m, j, h => by
    rw [List.foldl_cons] at h
    rcases ancNow_test l _ j h with h1 | ⟨e', h1, h2⟩
    · cases hb : Region.binds .any e with
      | false => rw [hb] at h1; exact .inl h1
      | true =>
        rw [hb] at h1
        rcases (or_test _ _ _).1 h1 with h1 | h1
        · exact .inl h1
        · refine .inr ⟨e, List.mem_cons_self, hb, ?_⟩
          rcases (or_test _ _ _).1 h1 with h1 | h1
          · rw [bitN_test, decide_eq_true_eq] at h1
            exact .inl h1.symm
          · exact .inr h1
    · exact .inr ⟨e', List.mem_cons_of_mem _ h1, h2⟩

theorem drawnOk_of {anc : List Nat} {M n : Nat} (h1 : ancOk ops.toList anc (ops.toList.map (compOper P ops)).length = true) (h2 : clashOk ops.toList (ops.toList.map (compOper P ops)) anc M = true) (h3 : dstsOk n ops = true) (hn : n ≤ N) : DrawnOk P ops anc M N := by
  have hlen : (ops.toList.map (compOper P ops)).length = ops.size := by simp
  have hlt : ∀ {i o}, ops[i]? = some o → i < ops.size := fun h => (Array.getElem?_eq_some_iff.1 h).1
  have hl : ∀ {i o}, ops[i]? = some o → ops.toList[i]? = some o := fun h => by rw [Array.getElem?_toList]; exact h
  have hclash : ∀ {i j o o' d}, ops[i]? = some o → ops[j]? = some o' → o'.dst = some d →
      ((!(looksA (compOper P ops o)).contains d || (anc.getD i 0).testBit j || (M.testBit j && (Nat.beq i j || (anc.getD j 0).testBit i))) = true) ∧
      ((Nat.beq i j || (match o.dst with | some d' => !Nat.beq d d' || (M.testBit j && (anc.getD j 0).testBit i) || (M.testBit i && (anc.getD i 0).testBit j) | none => true)) = true) := by
    intro i j o o' d ho ho' hd
    unfold clashOk at h2
    have h := List.all_eq_true.1 h2 j (List.mem_range.2 (by rw [hlen]; exact hlt ho'))
    rw [hl ho'] at h
    simp only [Option.bind_some, hd] at h
    have h := List.all_eq_true.1 h i (List.mem_range.2 (by rw [hlen]; exact hlt ho))
    rw [as_get, ho, hl ho] at h
    simp only [Option.map_some, Option.getD_some, Option.bind_some, Bool.and_eq_true] at h
    exact h
  refine { edges := fun i o ho e he hb => ?_, must := fun i o ho j hj => ?_, reads := fun i j o o' d ho ho' hd hm => ?_, dsts := fun i j o o' d ho ho' hne hd hd' => ?_, tmps := fun i o d ho hd => Nat.lt_of_lt_of_le (dstsOk_at h3 ho d hd) hn }
  · have h := (ancOk_at h1 i o (by rw [hlen]; exact hlt ho) (hl ho)).1
    have h := List.all_eq_true.1 h e (by simpa using he)
    rw [hb] at h
    exact blt_lt (by simpa using h)
  · have h := (ancOk_at h1 i o (by rw [hlen]; exact hlt ho) (hl ho)).2
    have h := subN_test h hj
    rcases ancNow_test _ 0 j h with h | ⟨e, he, hb, h⟩
    · rw [zero_test] at h; cases h
    · exact ⟨e, by simpa using he, hb, h⟩
  · have h := (hclash ho ho' hd).1
    simp only [Bool.or_eq_true, Bool.not_eq_true', Bool.and_eq_true] at h
    rcases h with (h | h) | ⟨h, h'⟩
    · have : (looksA (compOper P ops o)).contains d = true := by simpa using hm
      rw [this] at h; cases h
    · exact .inl h
    · exact .inr ⟨h, h'.imp (fun h => beq_true h) id⟩
  · have h := (hclash ho ho' hd').2
    rw [hd] at h
    simp only [Bool.or_eq_true, Bool.not_eq_true', Bool.and_eq_true] at h
    rcases h with h | (h | h) | h
    · exact absurd (beq_true h) hne
    · exact absurd rfl (beq_false h)
    · exact .inl h
    · exact .inr h

theorem drawn_region {cl : Cl} {Q : Exit → Act → World → Prop} {k : KL} {n : Nat} {id : Nat} (hm : P.follows .mixedOrders = true) (hN : NamesOk P) (hcl : ClOK P cl) (hd : dstsOk n ops = true) (hn : n ≤ N) (hr : RelA base ρ S w t a N) (h : runL (compDrawn P ops) cl t S k = some z) (hq : Ends base ρ S k z N (Q .normal)) :
    (Code.region id ops true).wp P Q a w := by
  refine wp_region_any hm ?_
  unfold compDrawn at h
  dsimp only at h
  generalize hanc : ancs ops.toList [] = anc at h
  generalize horder : orderL (ops.toList.map (compOper P ops)).length anc ((List.range (ops.toList.map (compOper P ops)).length).map (classA ops.toList (ops.toList.map (compOper P ops)) anc)) (2 * (ops.toList.map (compOper P ops)).length + 1) 0 0 0 0 = res at h
  generalize kindsOf res = M at h
  cases hc : (chkL (ops.toList.map (compOper P ops)) anc M res 0 0 0 0 && ancOk ops.toList anc (ops.toList.map (compOper P ops)).length && clashOk ops.toList (ops.toList.map (compOper P ops)) anc M && !ops.toList.any isSelect) with
  | false => rw [hc] at h; cases h
  | true =>
    rw [hc] at h
    simp only [Bool.and_eq_true] at hc
    obtain ⟨⟨⟨h1, h2⟩, h3⟩, _⟩ := hc
    have h : runL (compW (ops.toList.map (compOper P ops)) res) cl t S k = some z := h
    have hdr := drawnOk_of (N := N) h2 h3 hd hn
    have hnone : ∀ j, (Array.replicate ops.size false).getD j false = false := fun j => by
      rw [Array.getD_eq_getD_getElem?, Array.getElem?_replicate]
      split <;> rfl
    have hI : Inv base P ops anc M N ρ S (fun j => (Array.replicate ops.size false).getD j false = true) 0 0 0 0 (fun _ => 0) ρ S { w with drawn := w.drawn + 1 } t a :=
      { world := hr.world.drew', le := ρ.le_refl, keep := .refl ρ S, defers := hr.defers, size := hr.size, den := fun n _ => hr.tmps n,
        sub := fun j hj => (by rw [hnone] at hj; cases hj),
        main := fun j hj => (by rw [zero_test] at hj; cases hj),
        ancL := fun j hj => (by rw [hnone] at hj; cases hj),
        ancE := fun j hj => (by rw [zero_test] at hj; cases hj),
        inA := fun j hj => (by rw [zero_test] at hj; cases hj),
        vE := fun j hj => (by rw [zero_test] at hj; cases hj),
        fact := fun j o _ hj => (by rw [zero_test] at hj; cases hj),
        ids := fun j1 j2 o1 o2 _ _ hj => (by rw [zero_test] at hj; cases hj) }
    obtain ⟨res', E', F', V', idf', S', t', hI', hr', hc', hb'⟩ := stage hdr res 0 0 0 (fun _ => 0) S t hI h h1
    refine drawn_go hN hcl hdr hq ops.size _ _ _ _ _ _ res' _ _ _ _ _ (by simp) ?_ hI' hb' hr' hc'
    unfold unl
    have := List.countP_le_length (p := fun b => !b) (l := (Array.replicate ops.size false).toList)
    simpa using this

/-! ### Code -/
def exOf : AX → Exit
  | .normal => .normal
  | .ret => .ret
  | .exit i => .exit i
/-- What the end of some code must meet. -/
def Outs (base : World) (ρ : Rho) (S : AS) (k : KX) (z : AV × AS) (N : Nat) (Q : Exit → Act → World → Prop) : Prop :=
  ∀ x t' S' ρ' a' w', k x t' S' = some z → ρ.le ρ' → Keep ρ ρ' S S' → RelA base ρ' S' w' t' a' N → Q (exOf x) a' w'
theorem Outs.step {k : KX} {Q : Exit → Act → World → Prop} (h : Outs base ρ S k z N Q) {ρ' : Rho} {S' : AS} (hl : ρ.le ρ') (hk : Keep ρ ρ' S S') : Outs base ρ' S' k z N Q :=
  fun x t' S'' ρ'' a' w' h1 h2 h3 h4 => h x t' S'' ρ'' a' w' h1 (Rho.le_trans hl h2) (hk.trans h3) h4

def AgOK (P : Program) (ag : Ag) (m : Nat) : Prop :=
  ∀ (n N : Nat) (base : World) (b : Code) (ρ : Rho) (S : AS) (w : World) (t : T) (a : Act) (k : KX) (z : AV × AS) (Q : Exit → Act → World → Prop), n ≤ N → RelA base ρ S w t a N → ag (.loop (comp P n b)) t S k = some z → Outs base ρ S k z N Q → Code.rounds P b Q m a w

theorem loop_round {cl : Cl} {ag : Ag} {m n : Nat} {b : Code} (hag : AgOK P ag m) (hn : n ≤ N)
    (IH : ∀ (ρ : Rho) (S : AS) (w : World) (t : T) (a : Act) (k : KX) (Q : Exit → Act → World → Prop), RelA base ρ S w t a N → runA (comp P n b) cl ag t S k = some z → Outs base ρ S k z N Q → b.wp P Q a w)
    {k : KX} {Q : Exit → Act → World → Prop} (hr : RelA base ρ S w t a N) (h : runA (.loop (comp P n b)) cl ag t S k = some z) (hq : Outs base ρ S k z N Q) : Code.rounds P b Q (m + 1) a w := by
  rw [rounds_succ]
  refine IH ρ S w t a _ _ hr (show runA (comp P n b) cl ag t S (fun x t S => AX.rec (ag (.loop (comp P n b)) t S k) (k .ret t S) (fun i => k (.exit i) t S) x) = some z from h) fun x t' S' ρ' a' w' h1 h2 h3 h4 => ?_
  cases x with
  | normal => exact hag n N base b ρ' S' w' t' a' k z Q hn h4 h1 (hq.step h2 h3)
  | ret => exact hq .ret t' S' ρ' a' w' h1 h2 h3 h4
  | exit i => exact hq (.exit i) t' S' ρ' a' w' h1 h2 h3 h4

theorem code_wp {cl : Cl} {ag : Ag} {m n : Nat} (hm : P.follows .mixedOrders = true) (hN : NamesOk P) (hcl : ClOK P cl) (hag : AgOK P ag m) (hn : n ≤ N) :
    ∀ (b : Code) (ρ : Rho) (S : AS) (w : World) (t : T) (a : Act) (k : KX) (Q : Exit → Act → World → Prop), RelA base ρ S w t a N → runA (comp P n b) cl ag t S k = some z → Outs base ρ S k z N Q → b.wp P Q a w
  | .skip, ρ, S, w, t, a, k, Q, hr, h, hq => wp_skip (hq .normal t S ρ a w h ρ.le_refl (.refl ρ S) hr)
  | .label l, ρ, S, w, t, a, k, Q, hr, h, hq => wp_label (hq .normal t S ρ a w h ρ.le_refl (.refl ρ S) hr)
  | .exit i, ρ, S, w, t, a, k, Q, hr, h, hq => wp_exit (hq (.exit i) t S ρ a w h ρ.le_refl (.refl ρ S) hr)
  | .ret, ρ, S, w, t, a, k, Q, hr, h, hq => wp_ret (hq .ret t S ρ a w h ρ.le_refl (.refl ρ S) hr)
  | .region id ops d, ρ, S, w, t, a, k, Q, hr, h, hq => by
    have h : runA (bif dstsOk n ops then (bif d then .region (compDrawn P ops) else .region (compL (ops.toList.map (compOper P ops)))) else .bad) cl ag t S k = some z := h
    cases hd : dstsOk n ops with
    | false => rw [hd] at h; cases h
    | true =>
      rw [hd] at h
      have hq' : Ends base ρ S (k .normal) z N (Q .normal) := fun t' S' ρ' a' w' h1 h2 h3 h4 => hq .normal t' S' ρ' a' w' h1 h2 h3 h4
      cases d with
      | true => exact drawn_region hm hN hcl hd hn hr h hq'
      | false =>
        refine wp_region ?_
        have hd' : dstsOk N ops = true := by
          refine List.all_eq_true.2 fun o ho => ?_
          have := List.all_eq_true.1 hd o ho
          cases hdst : o.dst with
          | none => rfl
          | some d =>
            rw [hdst] at this
            have hlt : d < n := ble_true (show Nat.ble (d + 1) n = true from this)
            exact Nat.ble_eq_true_of_le (Nat.lt_of_lt_of_le hlt hn)
        have := plain_region (base := base) (z := z) (Q := Q) hN hcl hd' ops.toList 0 ρ S w t a (by simp) hr h hq'
        rw [Array.length_toList] at this
        rw [List.range_eq_range']
        exact this
  | .seq x y, ρ, S, w, t, a, k, Q, hr, h, hq => by
    refine wp_seq (code_wp hm hN hcl hag hn x ρ S w t a _ _ hr (show runA (comp P n x) cl ag t S (fun x t S => AX.rec (runA (comp P n y) cl ag t S k) (k .ret t S) (fun i => k (.exit i) t S) x) = some z from h) fun e t' S' ρ' a' w' h1 h2 h3 h4 => ?_)
    cases e with
    | normal => exact code_wp hm hN hcl hag hn y ρ' S' w' t' a' k Q h4 h1 (hq.step h2 h3)
    | ret => exact hq .ret t' S' ρ' a' w' h1 h2 h3 h4
    | exit i => exact hq (.exit i) t' S' ρ' a' w' h1 h2 h3 h4
  | .cond c x y, ρ, S, w, t, a, k, Q, hr, h, hq => by
    cases hc : ofOperand c with
    | none =>
      have h : runA (match ofOperand c with | some c => .cond c (comp P n x) (comp P n y) | none => .bad) cl ag t S k = some z := h
      rw [hc] at h
      cases h
    | some c' =>
      have h : runA (match ofOperand c with | some c => .cond c (comp P n x) (comp P n y) | none => .bad) cl ag t S k = some z := h
      rw [hc] at h
      obtain ⟨b, hb, h⟩ := onBool_some (show onBool (ev c' t) (fun b => ifB b (runA (comp P n x) cl ag t S k) (runA (comp P n y) cl ag t S k)) = some z from h)
      have hd := hr.tmps.ev c c' hc
      rw [hb] at hd
      generalize hv : a.eval c = v at hd
      cases hd
      cases b with
      | true => exact wp_cond_true hv (code_wp hm hN hcl hag hn x ρ S w t a k Q hr h hq)
      | false => exact wp_cond_false hv (code_wp hm hN hcl hag hn y ρ S w t a k Q hr h hq)
  | .block id b, ρ, S, w, t, a, k, Q, hr, h, hq => by
    refine wp_block (code_wp hm hN hcl hag hn b ρ S w t a _ _ hr (show runA (comp P n b) cl ag t S (fun x t S => AX.rec (k .normal t S) (k .ret t S) (fun i => ifB (Nat.beq i id) (k .normal t S) (k (.exit i) t S)) x) = some z from h) fun e t' S' ρ' a' w' h1 h2 h3 h4 => ?_)
    cases e with
    | normal => exact hq .normal t' S' ρ' a' w' h1 h2 h3 h4
    | ret => exact hq .ret t' S' ρ' a' w' h1 h2 h3 h4
    | exit i =>
      show if i = id then Q .normal a' w' else Q (.exit i) a' w'
      rcases ifB_or (show ifB (Nat.beq i id) (k .normal t' S') (k (.exit i) t' S') = some z from h1) with ⟨hb, h1⟩ | ⟨hb, h1⟩
      · rw [if_pos (beq_true hb)]
        exact hq .normal t' S' ρ' a' w' h1 h2 h3 h4
      · rw [if_neg (beq_false hb)]
        exact hq (.exit i) t' S' ρ' a' w' h1 h2 h3 h4
  | .scope b, ρ, S, w, t, a, k, Q, hr, h, hq => by
    refine wp_scope_straight (code_wp hm hN hcl hag hn b ρ S w t a k _ hr h fun e t' S' ρ' a' w' h1 h2 h3 h4 => ?_)
    cases e with
    | normal => exact hq .normal t' S' ρ' a' w' h1 h2 h3 h4
    | ret => exact hq .ret t' S' ρ' a' w' h1 h2 h3 h4
    | exit i => exact hq (.exit i) t' S' ρ' a' w' h1 h2 h3 h4
  | .loop b, ρ, S, w, t, a, k, Q, hr, h, hq => wp_loop_rounds (m + 1) (loop_round hag hn (code_wp hm hN hcl hag hn b) hr h hq)
  | .goto l, ρ, S, w, t, a, k, Q, hr, h, hq => by cases h
  | .rangeFunc .., ρ, S, w, t, a, k, Q, hr, h, hq => by cases h
  | .refuse r, ρ, S, w, t, a, k, Q, hr, h, hq => by cases h
end Go.Proofs.YtoldaakppnbhjaaGreat.Exe
