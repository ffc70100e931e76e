/- A part of the machine that reckons a closed run, and of the proof that what it says the given program does. No conditions. -/
import Derived.Test.YtpochibfjpanhaaGreatYn

set_option linter.unusedVariables false
set_option linter.unusedSimpArgs false
namespace Go.Proofs.YtpochibfjpanhaaGreat.Exe
open Go
variable {base w w' : World} {P : Program} {ρ ρ' ρ2 : Rho} {S S' S2 : AS} {A : Nat → Nat → Bool}

/-! ### Values that are one but for the numbers of their blocks -/
mutual
inductive Iso (A : Nat → Nat → Bool) : AV → AV → Prop where
  | bool (b : Bool) : Iso A (.bool b) (.bool b)
  | int (k : IntKind) (n : Int) : Iso A (.int k n) (.int k n)
  | str (s : ByteArray) : Iso A (.str s) (.str s)
  | pnil : Iso A .pnil .pnil
  | ptr {p p' : Nat} (q : Nat) : A p p' = true → Iso A (.ptr p q) (.ptr p' q)
  | snil : Iso A .snil .snil
  | sl {p p' : Nat} (q l c : Nat) (o : Bool) : A p p' = true → Iso A (.sl p q l c o) (.sl p' q l c o)
  | mnil : Iso A .mnil .mnil
  | map {p p' : Nat} : A p p' = true → Iso A (.map p) (.map p')
  | fnil : Iso A .fnil .fnil
  | fn (f : FuncId) {a c a' c' : List AV} : IsoL A a a' → IsoL A c c' → Iso A (.fn f a c) (.fn f a' c')
  | inil : Iso A .inil .inil
  | ifc (t : TypeId) {v v' : AV} : Iso A v v' → Iso A (.ifc t v) (.ifc t v')
  | agg {cs cs' : List AV} : IsoL A cs cs' → Iso A (.agg cs) (.agg cs')
  | bytes (l n : Nat) : Iso A (.bytes l n) (.bytes l n)
  | tup {cs cs' : List AV} : IsoL A cs cs' → Iso A (.tup cs) (.tup cs')
  | raw (r o : Nat) : Iso A (.raw r o) (.raw r o)
inductive IsoL (A : Nat → Nat → Bool) : List AV → List AV → Prop where
  | nil : IsoL A [] []
  | cons {v v' : AV} {l l' : List AV} : Iso A v v' → IsoL A l l' → IsoL A (v :: l) (v' :: l')
end
theorem toB'_true {o : Option Bool} (h : toB' o = true) : o = some true := by
  cases o with
  | none => cases h
  | some b => exact congrArg some h
mutual
theorem isoV_iso : ∀ (x y : AV), isoV A x y = true → Iso A x y
  | .bool x, y, h => by
    obtain ⟨b, rfl, h9⟩ := onBool_some (toB'_true h)
    cases x <;> cases b <;> first | exact .bool _ | cases h9
  | .int k n, y, h => by
    obtain ⟨j, m, rfl, h9⟩ := onInt_some (toB'_true h)
    obtain ⟨h1, h2⟩ := ifB_bool (Option.some.inj h9)
    rw [eqK_eq, decide_eq_true_eq] at h2
    rw [kindNo_inj h1, h2]
    exact .int _ _
  | .str s, y, h => by
    obtain ⟨r, rfl, h9⟩ := onStr_some (toB'_true h)
    rw [(strEq_iff s r).1 (Option.some.inj h9)]
    exact .str _
  | .pnil, y, h => by rw [nilNo_1 (beq_true h)]; exact .pnil
  | .ptr p q, y, h => by
    obtain ⟨p', q', rfl, h9⟩ := onPtr_some (toB'_true h)
    obtain ⟨h1, h2⟩ := ifB_bool (Option.some.inj h9)
    rw [beq_true h2]
    exact .ptr _ h1
  | .snil, y, h => by rw [nilNo_2 (beq_true h)]; exact .snil
  | .sl p q l c o, y, h => by
    obtain ⟨p', q', l', c', o', rfl, h9⟩ := onSl_some (toB'_true h)
    obtain ⟨h1, h8⟩ := ifB_bool (Option.some.inj h9)
    obtain ⟨h2, h7⟩ := ifB_bool h8
    obtain ⟨h3, h6⟩ := ifB_bool h7
    obtain ⟨h4, h5⟩ := ifB_bool h6
    rw [beq_true h2, beq_true h3, beq_true h4]
    cases o <;> cases o' <;> first | exact .sl _ _ _ _ h1 | cases h5
  | .mnil, y, h => by rw [nilNo_3 (beq_true h)]; exact .mnil
  | .map p, y, h => by
    obtain ⟨p', rfl, h9⟩ := onMap_some (toB'_true h)
    exact .map (Option.some.inj h9)
  | .fnil, y, h => by rw [nilNo_4 (beq_true h)]; exact .fnil
  | .fn f a1 c1, y, h => by
    obtain ⟨f', a', c', rfl, h9⟩ := onFn_some (toB'_true h)
    obtain ⟨h1, h8⟩ := ifB_bool (Option.some.inj h9)
    obtain ⟨h2, h3⟩ := ifB_bool h8
    have h1 : f = f' := beq_true h1
    rw [h1]
    exact .fn _ (isosV_iso a1 a' h2) (isosV_iso c1 c' h3)
  | .inil, y, h => by rw [nilNo_5 (beq_true h)]; exact .inil
  | .ifc t v, y, h => by
    obtain ⟨t', v', rfl, h9⟩ := onIfc_some (toB'_true h)
    obtain ⟨h1, h2⟩ := ifB_bool (Option.some.inj h9)
    have h1 : t = t' := beq_true h1
    rw [h1]
    exact .ifc _ (isoV_iso v v' h2)
  | .agg cs, y, h => by
    obtain ⟨cs', rfl, h9⟩ := onAgg_some (toB'_true h)
    exact .agg (isosV_iso cs cs' (Option.some.inj h9))
  | .bytes l n, y, h => by
    obtain ⟨l', n', rfl, h9⟩ := onBytes_some (toB'_true h)
    obtain ⟨h1, h2⟩ := ifB_bool (Option.some.inj h9)
    rw [beq_true h1, beq_true h2]
    exact .bytes _ _
  | .tup cs, y, h => by
    obtain ⟨cs', rfl, h9⟩ := onTup_some (toB'_true h)
    exact .tup (isosV_iso cs cs' (Option.some.inj h9))
  | .junk, y, h => by cases h
  | .yl _, y, h => by cases h
  | .any, y, h => by cases h
  | .lit _, y, h => by cases h
  | .raw r o, y, h => by
    obtain ⟨r', o', rfl, h9⟩ := onRaw_some (toB'_true h)
    obtain ⟨h1, h2⟩ := ifB_bool (Option.some.inj h9)
    rw [beq_true h1, beq_true h2]
    exact .raw _ _
theorem isosV_iso : ∀ (x y : List AV), AV.rec_1 (motive_1 := fun _ => AV → Bool) (motive_2 := fun _ => List AV → Bool)
    (fun x b => toB' (onBool b fun y => some (ifB x y (ifB y false true))))
    (fun k n b => toB' (onInt b fun j m => some (ifB (sameKind k j) (eqK n m) false)))
    (fun s b => toB' (onStr b fun r => some (strEq s r)))
    (fun b => Nat.beq (nilNo b) 1)
    (fun p q b => toB' (onPtr b fun p' q' => some (ifB (A p p') (Nat.beq q q') false)))
    (fun b => Nat.beq (nilNo b) 2)
    (fun p q l c o b => toB' (onSl b fun p' q' l' c' o' => some (ifB (A p p') (ifB (Nat.beq q q') (ifB (Nat.beq l l') (ifB (Nat.beq c c') (ifB o o' (ifB o' false true)) false) false) false) false)))
    (fun b => Nat.beq (nilNo b) 3)
    (fun p b => toB' (onMap b fun p' => some (A p p')))
    (fun b => Nat.beq (nilNo b) 4)
    (fun f _ _ i1 i2 b => toB' (onFn b fun f' a' c' => some (ifB (Nat.beq f f') (ifB (i1 a') (i2 c') false) false)))
    (fun b => Nat.beq (nilNo b) 5)
    (fun t _ i b => toB' (onIfc b fun t' v' => some (ifB (Nat.beq t t') (i v') false)))
    (fun _ i b => toB' (onAgg b fun cs => some (i cs)))
    (fun l n b => toB' (onBytes b fun l' n' => some (ifB (Nat.beq l l') (Nat.beq n n') false)))
    (fun _ i b => toB' (onTup b fun cs => some (i cs)))
    (fun _ => false) (fun _ _ => false) (fun _ => false)
    (fun r o b => toB' (onRaw b fun r' o' => some (ifB (Nat.beq r r') (Nat.beq o o') false)))
    (fun _ _ => false)
    (fun l => List.rec true (fun _ _ _ => false) l)
    (fun _ _ i is l => List.rec false (fun x r _ => ifB (i x) (is r) false) l) x y = true → IsoL A x y
  | [], [], _ => .nil
  | [], _ :: _, h => by cases h
  | _ :: _, [], h => by cases h
  | x :: xs, y :: ys, h => by
    obtain ⟨h1, h2⟩ := ifB_bool h
    exact .cons (isoV_iso x y h1) (isosV_iso xs ys h2)
end
theorem isoL_iso : ∀ (x y : List AV), isoL A x y = true → IsoL A x y
  | [], [], _ => .nil
  | [], _ :: _, h => by cases h
  | _ :: _, [], h => by cases h
  | x :: xs, y :: ys, h => by
    obtain ⟨h1, h2⟩ := ifB_bool (show ifB (isoV A x y) (isoL A xs ys) false = true from h)
    exact .cons (isoV_iso x y h1) (isoL_iso xs ys h2)
theorem isoE_cons {x y : AV × AV × Nat} {xs ys : List (AV × AV × Nat)} (h : isoE A (x :: xs) (y :: ys) = true) : Iso A x.1 y.1 ∧ Iso A x.2.1 y.2.1 ∧ x.2.2 = y.2.2 ∧ isoE A xs ys = true := by
  obtain ⟨h1, h⟩ := ifB_bool (show ifB (isoV A x.1 y.1) (ifB (isoV A x.2.1 y.2.1) (ifB (Nat.beq x.2.2 y.2.2) (isoE A xs ys) false) false) false = true from h)
  obtain ⟨h2, h⟩ := ifB_bool h
  obtain ⟨h3, h4⟩ := ifB_bool h
  exact ⟨isoV_iso _ _ h1, isoV_iso _ _ h2, beq_true h3, h4⟩
theorem isoN_eq : ∀ {x y : List Nat}, isoN x y = true → x = y
  | [], [], _ => rfl
  | [], _ :: _, h => by cases h
  | _ :: _, [], h => by cases h
  | x :: xs, y :: ys, h => by
    obtain ⟨h1, h2⟩ := ifB_bool (show ifB (Nat.beq x y) (isoN xs ys) false = true from h)
    rw [beq_true h1, isoN_eq h2]

/-! ### With no number changed they are the same -/
mutual
theorem Iso.eq (hA : ∀ a b, A a b = true → a = b) : ∀ {x y : AV}, Iso A x y → x = y
  | _, _, .bool _ => rfl
  | _, _, .int _ _ => rfl
  | _, _, .str _ => rfl
  | _, _, .pnil => rfl
  | _, _, .ptr _ h => by rw [hA _ _ h]
  | _, _, .snil => rfl
  | _, _, .sl _ _ _ _ h => by rw [hA _ _ h]
  | _, _, .mnil => rfl
  | _, _, .map h => by rw [hA _ _ h]
  | _, _, .fnil => rfl
  | _, _, .fn _ a c => by rw [a.eq hA, c.eq hA]
  | _, _, .inil => rfl
  | _, _, .ifc _ v => by rw [v.eq hA]
  | _, _, .agg c => by rw [c.eq hA]
  | _, _, .bytes _ _ => rfl
  | _, _, .tup c => by rw [c.eq hA]
  | _, _, .raw _ _ => rfl
theorem IsoL.eq (hA : ∀ a b, A a b = true → a = b) : ∀ {x y : List AV}, IsoL A x y → x = y
  | _, _, .nil => rfl
  | _, _, .cons v l => by rw [v.eq hA, l.eq hA]
end
theorem isoE_eq (hA : ∀ a b, A a b = true → a = b) : ∀ {x y : List (AV × AV × Nat)}, isoE A x y = true → x = y
  | [], [], _ => rfl
  | [], _ :: _, h => by cases h
  | _ :: _, [], h => by cases h
  | (a, b, c) :: xs, (a', b', c') :: ys, h => by
    obtain ⟨h1, h2, h3, h4⟩ := isoE_cons h
    have h1 : a = a' := h1.eq hA
    have h2 : b = b' := h2.eq hA
    have h3 : c = c' := h3
    rw [h1, h2, h3, isoE_eq hA h4]
theorem isoM_eq (hA : ∀ a b, A a b = true → a = b) {x y : Option Nat} (h : isoM A x y = true) : x = y := by
  cases x <;> cases y <;> first | rfl | (cases h; done) | skip
  rw [hA _ _ h]
theorem isoO_eq (hA : ∀ a b, A a b = true → a = b) {x y : AObj} (h : isoO A x y = true) : x = y := by
  cases x with
  | cells e z cs =>
    cases y <;> first | (cases h; done) | skip
    obtain ⟨h1, h⟩ := ifB_bool h
    obtain ⟨h2, h3⟩ := ifB_bool h
    have h1 := beq_true h1
    rw [h1, beq_true h2, (isoL_iso _ _ h3).eq hA]
  | map es c =>
    cases y <;> first | (cases h; done) | skip
    obtain ⟨h1, h2⟩ := ifB_bool h
    rw [beq_true h1, isoE_eq hA h2]
  | loop => cases h
  | dfr => cases h
  | iter m s l c =>
    cases y <;> first | (cases h; done) | skip
    obtain ⟨h1, h⟩ := ifB_bool h
    obtain ⟨h2, h⟩ := ifB_bool h
    obtain ⟨h3, h4⟩ := ifB_bool h
    rw [isoM_eq hA h1, beq_true h2, isoN_eq h3, beq_true h4]

/-! ### They mean the same -/
theorem Iso.one {x y : AV} (h : Iso A x y) : isOne x = isOne y := by cases h <;> rfl
mutual
theorem Iso.den (hA : ∀ a b, A a b = true → ρ2 a = ρ' b) : ∀ {x y : AV}, Iso A x y → ∀ {u : Value}, Den ρ' y u → Den ρ2 x u
  | _, _, .bool _, _, d => by cases d; exact .bool _
  | _, _, .int _ _, _, d => by cases d; exact .int _ _
  | _, _, .str _, _, d => by cases d; exact .str _
  | _, _, .pnil, _, d => by cases d; exact .pnil
  | _, _, .ptr _ h, _, d => by cases d with | ptr e => exact .ptr ((hA _ _ h).trans e)
  | _, _, .snil, _, d => by cases d; exact .snil
  | _, _, .sl _ _ _ _ h, _, d => by cases d with | sl e => exact .sl ((hA _ _ h).trans e)
  | _, _, .mnil, _, d => by cases d; exact .mnil
  | _, _, .map h, _, d => by cases d with | map e => exact .map ((hA _ _ h).trans e)
  | _, _, .fnil, _, d => by cases d; exact .fnil
  | _, _, .fn _ a c, _, d => by cases d with | fn d1 d2 => exact .fn (a.den hA d1) (c.den hA d2)
  | _, _, .inil, _, d => by cases d; exact .inil
  | _, _, .ifc _ v, _, d => by cases d with | ifc d1 => exact .ifc (v.den hA d1)
  | _, _, .agg c, _, d => by cases d with | agg d1 => exact .agg (c.cells hA d1)
  | _, _, .bytes _ _, _, d => by cases d
  | _, _, .tup c, _, d => by cases d with | tup d1 => exact .tup (c.den hA d1)
  | _, _, .raw _ _, _, d => by cases d; exact .raw _ _
theorem IsoL.den (hA : ∀ a b, A a b = true → ρ2 a = ρ' b) : ∀ {x y : List AV}, IsoL A x y → ∀ {u : List Value}, DenL ρ' y u → DenL ρ2 x u
  | _, _, .nil, _, d => by cases d; exact .nil
  | _, _, .cons v l, _, d => by cases d with | cons d1 d2 => exact .cons (v.den hA d1) (l.den hA d2)
theorem IsoL.cells (hA : ∀ a b, A a b = true → ρ2 a = ρ' b) : ∀ {x y : List AV}, IsoL A x y → ∀ {u : List Value}, Cells ρ' y u → Cells ρ2 x u
  | _, _, .nil, _, d => by cases d; exact .nil
  | _, _, .cons v l, _, d => by
    cases d with
    | bytes d2 =>
      cases v with
      | bytes => exact .bytes (l.cells hA d2)
    | one o d1 d2 => exact .one (v.one.trans o) (v.den hA d1) (l.cells hA d2)
end
theorem isoE_ents (hA : ∀ a b, A a b = true → ρ2 a = ρ' b) : ∀ {x y : List (AV × AV × Nat)} {ms : List MapEntry}, isoE A x y = true → Ents ρ' y ms → Ents ρ2 x ms
  | [], [], _, _, .nil => .nil
  | [], _ :: _, _, h, _ => by cases h
  | _ :: _, [], _, h, _ => by cases h
  | (a, b, c) :: xs, _ :: ys, _, h, .cons d1 d2 d3 d4 => by
    obtain ⟨h1, h2, h3, h4⟩ := isoE_cons h
    exact .cons (h1.den hA d1) (h2.den hA d2) (d3.trans h3.symm) (isoE_ents hA h4 d4)
theorem isoO_rel (hA : ∀ a b, A a b = true → ρ2 a = ρ' b) {x : Nat} {o2 o : AObj} {u : Obj} (h : isoO A o2 o = true) (d : ORel ρ' x o u) : ORel ρ2 x o2 u := by
  cases o2 with
  | cells e z cs =>
    cases o <;> first | (cases h; done) | skip
    obtain ⟨h1, h⟩ := ifB_bool h
    obtain ⟨h2, h3⟩ := ifB_bool h
    have h1 := beq_true h1
    have h2 := beq_true h2
    subst h1 h2
    cases d with
    | cells d1 d2 d3 => exact .cells ((isoL_iso _ _ h3).cells hA d1) d2 d3
  | map es c =>
    cases o <;> first | (cases h; done) | skip
    obtain ⟨h1, h2⟩ := ifB_bool h
    have h1 := beq_true h1
    subst h1
    cases d with
    | map d1 => exact .map (isoE_ents hA h2 d1)
  | loop => cases h
  | dfr => cases h
  | iter m s l c =>
    cases o <;> first | (cases h; done) | skip
    rename_i m0 s0 l0 c0
    obtain ⟨h1, h⟩ := ifB_bool h
    obtain ⟨h2, h⟩ := ifB_bool h
    obtain ⟨h3, h4⟩ := ifB_bool h
    have h2 := beq_true h2
    have h3 := isoN_eq h3
    have h4 := beq_true h4
    subst h2 h3 h4
    cases d with
    | @iter _ m' _ _ _ d1 =>
      refine .iter ?_
      cases m <;> cases m0 <;> first | (cases h1; done) | skip
      · cases m' with
        | none => trivial
        | some r => exact d1.elim
      · cases m' with
        | none => exact d1.elim
        | some r =>
          obtain ⟨q, hq⟩ := d1
          exact ⟨q, (hA _ _ h1).trans hq⟩

/-! ### One state for another -/
/-- What the new numbers stand for. -/
noncomputable def reRho (n0 : Nat) (ms : Pairs) (ρ' : Rho) : Rho := fun a => ifB (Nat.ble (Nat.succ a) n0) (ρ' a) (Option.rec (motive := fun _ => Option (Nat × Nat)) none ρ' (lookN ms a))
theorem reRho_old {n0 : Nat} {ms : Pairs} {a : Nat} (h : a < n0) : reRho n0 ms ρ' a = ρ' a := by
  unfold reRho
  rw [Nat.ble_eq_true_of_le h]
  rfl
theorem reRho_new {n0 : Nat} {ms : Pairs} {a : Nat} (h : n0 ≤ a) : reRho n0 ms ρ' a = (lookN ms a).bind ρ' := by
  have : Nat.ble (Nat.succ a) n0 = false := by
    cases hb : Nat.ble (Nat.succ a) n0 with
    | false => rfl
    | true => have := Nat.le_of_ble_eq_true hb; omega
  unfold reRho
  rw [this]
  cases lookN ms a <;> rfl
theorem lookN_mem : ∀ {ms : Pairs} {a b : Nat}, lookN ms a = some b → (a, b) ∈ ms
  | [], _, _, h => by cases h
  | (x, y) :: ms, a, b, h => by
    have h : ifB (Nat.beq x a) (some y) (lookN ms a) = some b := h
    rcases ifB_or h with ⟨h1, h2⟩ | ⟨_, h2⟩
    · rw [beq_true h1, Option.some.inj h2]; exact List.mem_cons_self
    · exact List.mem_cons_of_mem _ (lookN_mem h2)
theorem allP_mem {f : Nat × Nat → Bool} : ∀ {ms : Pairs}, allP f ms = true → ∀ p ∈ ms, f p = true
  | [], _, _, h => by cases h
  | x :: ms, h, p, hp => by
    obtain ⟨h1, h2⟩ := ifB_bool (show ifB (f x) (allP f ms) false = true from h)
    rcases List.mem_cons.1 hp with rfl | hp
    · exact h1
    · exact allP_mem h2 p hp
theorem allN_at {f : Nat → Bool} : ∀ {n : Nat}, allN f n = true → ∀ b, b < n → f b = true
  | 0, _, _, h => by omega
  | n + 1, h, b, hb => by
    obtain ⟨h1, h2⟩ := ifB_bool (show ifB (f n) (allN f n) false = true from h)
    by_cases e : b = n
    · rw [e]; exact h1
    · exact allN_at h2 b (by omega)
theorem sndIn_false : ∀ {ms : Pairs} {b : Nat}, sndIn b ms = false → ∀ p ∈ ms, p.2 ≠ b
  | [], _, _, _, h => by cases h
  | x :: ms, b, h, p, hp => by
    have h : ifB (Nat.beq x.2 b) true (sndIn b ms) = false := h
    rcases ifB_or h with ⟨_, h2⟩ | ⟨h1, h2⟩
    · cases h2
    · rcases List.mem_cons.1 hp with rfl | hp
      · intro e; rw [e] at h1; simp at h1
      · exact sndIn_false h2 p hp
theorem apartP_inj : ∀ {ms : Pairs}, apartP ms = true → ∀ {a a' b : Nat}, (a, b) ∈ ms → (a', b) ∈ ms → a = a'
  | [], _, _, _, _, h, _ => by cases h
  | x :: ms, h, a, a', b, h1, h2 => by
    have h : ifB (sndIn x.2 ms) false (apartP ms) = true := h
    rcases ifB_or h with ⟨_, h3⟩ | ⟨h3, h4⟩
    · cases h3
    · rcases List.mem_cons.1 h1 with e1 | g1 <;> rcases List.mem_cons.1 h2 with e2 | g2
      · have := e1.trans e2.symm
        exact (Prod.mk.inj this).1
      · subst e1; exact (sndIn_false h3 _ g2 rfl).elim
      · subst e2; exact (sndIn_false h3 _ g1 rfl).elim
      · exact apartP_inj h4 g1 g2
theorem okA_rho {n0 : Nat} {ms : Pairs} {a b : Nat} (h : okA n0 ms a b = true) : reRho n0 ms ρ' a = ρ' b := by
  rcases ifB_or (show ifB (Nat.ble (Nat.succ a) n0) (Nat.beq a b) (Option.rec (motive := fun _ => Bool) false (fun c => Nat.beq c b) (lookN ms a)) = true from h) with ⟨h1, h2⟩ | ⟨h1, h2⟩
  · rw [reRho_old (ble_true h1), beq_true h2]
  · have hge : n0 ≤ a := by
      rcases Nat.lt_or_ge a n0 with hlt | hge
      · rw [Nat.ble_eq_true_of_le hlt] at h1; cases h1
      · exact hge
    rw [reRho_new hge]
    cases hl : lookN ms a with
    | none => rw [hl] at h2; cases h2
    | some c => rw [hl] at h2; rw [← beq_true (show Nat.beq c b = true from h2)]; rfl
theorem match_ok {v2 v : AV} {u : Value} {ms : Pairs} (hw : WRel base ρ S w) (h : checkK S.next ms S v2 S2 v S' = true) (hle : ρ.le ρ') (hk : Keep ρ ρ' S S') (hw' : WRel base ρ' S' w') (hv : Den ρ' v u) :
    ∃ ρ2, ρ.le ρ2 ∧ Keep ρ ρ2 S S2 ∧ WRel base ρ2 S2 w' ∧ Den ρ2 v2 u := by
  obtain ⟨c1, h⟩ := ifB_bool (show ifB _ _ false = true from h)
  obtain ⟨c2, h⟩ := ifB_bool (show ifB _ _ false = true from h)
  obtain ⟨c3, h⟩ := ifB_bool (show ifB _ _ false = true from h)
  obtain ⟨c4, c5⟩ := ifB_bool (show ifB _ _ false = true from h)
  have hn := ble_true c1
  have hp : ∀ {a b : Nat}, lookN ms a = some b → S.next ≤ a ∧ a < S2.next ∧ S.next ≤ b := fun hl => by
    obtain ⟨d1, d2⟩ := ifB_bool (show ifB _ _ false = true from allP_mem c2 _ (lookN_mem hl))
    obtain ⟨d2, d3⟩ := ifB_bool (show ifB _ _ false = true from d2)
    exact ⟨ble_true d1, ble_true d2, ble_true d3⟩
  have hA : ∀ a b, okA S.next ms a b = true → reRho S.next ms ρ' a = ρ' b := fun a b => okA_rho
  have hold : ∀ {b : Nat} {o2 : AObj}, b < S.next → S2.heap.getK b = some o2 → ∃ o, S'.heap.getK b = some o ∧ isoO (okA S.next ms) o2 o = true ∧ (S.heap.getK b = some o → o2 = o) := fun {b o2} hb ho => by
    have c := allN_at c5 b (by omega)
    rw [Nat.ble_eq_true_of_le hb] at c
    have c : oldOK S.next ms S S2 S' b = true := c
    unfold oldOK at c
    rw [ho] at c
    cases h1 : S'.heap.getK b with
    | none => rw [h1] at c; cases c
    | some o =>
      rw [h1] at c
      obtain ⟨c6, c7⟩ := ifB_bool (show ifB (isoO (okA S.next ms) o2 o) _ false = true from c)
      refine ⟨o, rfl, c6, fun h2 => ?_⟩
      rw [h2] at c7
      rcases ifB_or (show ifB (isoO Nat.beq o2 o) true (ifB (Nat.beq (hashO o) (hashO o)) false true) = true from c7) with ⟨c8, _⟩ | ⟨_, c8⟩
      · exact isoO_eq (fun a b h => beq_true h) c8
      · simp [ifB] at c8
  have hnew : ∀ {b : Nat} {o2 : AObj}, S.next ≤ b → b < S2.next → S2.heap.getK b = some o2 → ∃ c o, lookN ms b = some c ∧ S'.heap.getK c = some o ∧ isoO (okA S.next ms) o2 o = true := fun {b o2} hb hb2 ho => by
    have c := allN_at c5 b hb2
    have e1 : Nat.ble (Nat.succ b) S.next = false := by
      cases hx : Nat.ble (Nat.succ b) S.next with
      | false => rfl
      | true => have := ble_true hx; omega
    rw [e1] at c
    have c : newOK S.next ms S2 S' b = true := c
    unfold newOK at c
    rw [ho] at c
    cases h1 : lookN ms b with
    | none => rw [h1] at c; cases c
    | some d =>
      rw [h1] at c
      cases h2 : S'.heap.getK d with
      | none =>
        have c : (Option.rec (motive := fun _ => Bool) false (fun o => isoO (okA S.next ms) o2 o) (S'.heap.getK d) : Bool) = true := c
        rw [h2] at c; cases c
      | some o =>
        have c : (Option.rec (motive := fun _ => Bool) false (fun o => isoO (okA S.next ms) o2 o) (S'.heap.getK d) : Bool) = true := c
        rw [h2] at c
        exact ⟨d, o, rfl, h2, c⟩
  -- the block of S' for a block of S2
  have himg : ∀ {b : Nat} {o2 : AObj} {rx : Nat × Nat}, S2.heap.getK b = some o2 → reRho S.next ms ρ' b = some rx → ∃ c o, S'.heap.getK c = some o ∧ ρ' c = some rx ∧ isoO (okA S.next ms) o2 o = true ∧ ((b < S.next ∧ c = b) ∨ (S.next ≤ b ∧ S.next ≤ c ∧ (b, c) ∈ ms)) := fun {b o2 rx} ho hr => by
    rcases Nat.lt_or_ge b S.next with hb | hb
    · obtain ⟨o, h1, h2, _⟩ := hold hb ho
      exact ⟨b, o, h1, (reRho_old (ρ' := ρ') (ms := ms) hb).symm.trans hr, h2, .inl ⟨hb, rfl⟩⟩
    · rw [reRho_new hb] at hr
      cases hl : lookN ms b with
      | none => rw [hl] at hr; cases hr
      | some d =>
        rw [hl] at hr
        obtain ⟨_, p2, p3⟩ := hp hl
        obtain ⟨c, o, h1, h2, h3⟩ := hnew hb p2 ho
        rw [hl] at h1
        cases h1
        exact ⟨d, o, h2, hr, h3, .inr ⟨hb, p3, lookN_mem hl⟩⟩
  refine ⟨reRho S.next ms ρ', fun b r e => ?_, ⟨hn, fun b hb e => ?_⟩, ?_, (isoV_iso _ _ c4).den hA hv⟩
  · have hb : b < S.next := by
      rcases Nat.lt_or_ge b S.next with hb | hb
      · exact hb
      · rw [hw.dom b hb] at e; cases e
    rw [reRho_old hb]
    exact hle _ _ e
  · obtain ⟨k1, k2⟩ := hk.2 b hb e
    refine ⟨by rw [reRho_old hb]; exact k1, fun o2 ho => ?_⟩
    obtain ⟨o, h1, _, h3⟩ := hold hb ho
    have h4 := k2 o h1
    rw [h3 h4]
    exact h4
  · refine { low := hw'.low, size := hw'.size, os := hw'.os, output := hw'.output, tape := hw'.tape, dom := fun b hb => ?_, rng := fun b r x e => ?_, inj := fun b c r x y hb hc eb ec => ?_, obj := fun b o r x hb e => ?_ }
    · rw [reRho_new (by omega)]
      cases hl : lookN ms b with
      | none => rfl
      | some d => have := (hp hl).2.1; omega
    · rcases Nat.lt_or_ge b S.next with hb | hb
      · rw [reRho_old hb] at e; exact hw'.rng b r x e
      · rw [reRho_new hb] at e
        cases hl : lookN ms b with
        | none => rw [hl] at e; cases e
        | some d => rw [hl] at e; exact hw'.rng d r x e
    · obtain ⟨o1, hb⟩ := hb
      obtain ⟨o2, hc⟩ := hc
      obtain ⟨b', ob, q1, q2, _, q3⟩ := himg hb eb
      obtain ⟨c', oc, t1, t2, _, t3⟩ := himg hc ec
      have he : b' = c' := hw'.inj b' c' r x y ⟨_, q1⟩ ⟨_, t1⟩ q2 t2
      rcases q3 with ⟨l1, l2⟩ | ⟨l1, l2, l3⟩ <;> rcases t3 with ⟨n1, n2⟩ | ⟨n1, n2, n3⟩
      · omega
      · omega
      · omega
      · rw [← he] at n3
        exact apartP_inj c3 l3 n3
    · obtain ⟨c, o', q1, q2, q3, _⟩ := himg hb e
      obtain ⟨u', hu, hrel⟩ := hw'.obj c o' r x q1 q2
      exact ⟨u', hu, isoO_rel hA q3 hrel⟩
end Go.Proofs.YtpochibfjpanhaaGreat.Exe
