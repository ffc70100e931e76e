/- A part of the machine that reckons a closed run, and of the proof that what it says the given program does. No conditions. -/
import Derived.Test.YtpllompnfhpfmaaGreatDoorMh
import Derived.Test.YtpllompnfhpfmaaGreatDoorMd
import Derived.WideShapes
set_option linter.unusedVariables false
set_option linter.unusedSimpArgs false
namespace Go.Proofs.YtpllompnfhpfmaaGreatDoor.Exe
open Go
variable {Lg : Laid} {base : Base Lg} {w w' : World} {P : Program} {ρ ρ' ρ2 : Rho} {S S' S2 : AS} {A : Nat → Nat → Bool}

/-! ### Values that are one but for the numbers of their blocks -/
mutual
inductive Iso (A : Nat → Nat → Bool) : AV → AV → Prop where
  | bool (b : Bool) : Iso A (.bool b) (.bool b)
  | int (k : IntKind) (n : Int) : Iso A (.int k n) (.int k n)
  | str (s : ByteArray) : Iso A (.str s) (.str s)
  | pnil : Iso A .pnil .pnil
  | ptr {p p' : Nat} (q : Nat) : A p p' = true → Iso A (.ptr p q) (.ptr p' q)
  | snil : Iso A .snil .snil
  | sl {p p' : Nat} (q l c : Nat) (o : Bool) : A p p' = true → Iso A (.sl p q l c o) (.sl p' q l c o)
  | mnil : Iso A .mnil .mnil
  | map {p p' : Nat} : A p p' = true → Iso A (.map p) (.map p')
  | fnil : Iso A .fnil .fnil
  | fn (f : FuncId) {a c a' c' : List AV} : IsoL A a a' → IsoL A c c' → Iso A (.fn f a c) (.fn f a' c')
  | inil : Iso A .inil .inil
  | ifc (t : TypeId) {v v' : AV} : Iso A v v' → Iso A (.ifc t v) (.ifc t v')
  | agg {cs cs' : List AV} : IsoL A cs cs' → Iso A (.agg cs) (.agg cs')
  | bytes (l n : Nat) : Iso A (.bytes l n) (.bytes l n)
  | tup {cs cs' : List AV} : IsoL A cs cs' → Iso A (.tup cs) (.tup cs')
  | raw (r o : Nat) : Iso A (.raw r o) (.raw r o)
inductive IsoL (A : Nat → Nat → Bool) : List AV → List AV → Prop where
  | nil : IsoL A [] []
  | cons {v v' : AV} {l l' : List AV} : Iso A v v' → IsoL A l l' → IsoL A (v :: l) (v' :: l')
end
theorem toB'_true {o : Option Bool} (h : toB' o = true) : o = some true := by
  cases o with
  | none => cases h
  | some b => exact congrArg some h
mutual
theorem isoV_iso : ∀ (x y : AV), isoV A x y = true → Iso A x y
  | .bool x, y, h => by
    obtain ⟨b, rfl, h9⟩ := onBool_some (toB'_true h)
    cases x <;> cases b <;> first | exact .bool _ | cases h9
  | .int k n, y, h => by
    obtain ⟨j, m, rfl, h9⟩ := onInt_some (toB'_true h)
    obtain ⟨h1, h2⟩ := ifB_bool (Option.some.inj h9)
    rw [eqK_eq, decide_eq_true_eq] at h2
    rw [kindNo_inj h1, h2]
    exact .int _ _
  | .str s, y, h => by
    obtain ⟨r, rfl, h9⟩ := onStr_some (toB'_true h)
    rw [(strEq_iff s r).1 (Option.some.inj h9)]
    exact .str _
  | .pnil, y, h => by rw [nilNo_1 (beq_true h)]; exact .pnil
  | .ptr p q, y, h => by
    obtain ⟨p', q', rfl, h9⟩ := onPtr_some (toB'_true h)
    obtain ⟨h1, h2⟩ := ifB_bool (Option.some.inj h9)
    rw [beq_true h2]
    exact .ptr _ h1
  | .snil, y, h => by rw [nilNo_2 (beq_true h)]; exact .snil
  | .sl p q l c o, y, h => by
    obtain ⟨p', q', l', c', o', rfl, h9⟩ := onSl_some (toB'_true h)
    obtain ⟨h1, h8⟩ := ifB_bool (Option.some.inj h9)
    obtain ⟨h2, h7⟩ := ifB_bool h8
    obtain ⟨h3, h6⟩ := ifB_bool h7
    obtain ⟨h4, h5⟩ := ifB_bool h6
    rw [beq_true h2, beq_true h3, beq_true h4]
    cases o <;> cases o' <;> first | exact .sl _ _ _ _ h1 | cases h5
  | .mnil, y, h => by rw [nilNo_3 (beq_true h)]; exact .mnil
  | .map p, y, h => by
    obtain ⟨p', rfl, h9⟩ := onMap_some (toB'_true h)
    exact .map (Option.some.inj h9)
  | .fnil, y, h => by rw [nilNo_4 (beq_true h)]; exact .fnil
  | .fn f a1 c1, y, h => by
    obtain ⟨f', a', c', rfl, h9⟩ := onFn_some (toB'_true h)
    obtain ⟨h1, h8⟩ := ifB_bool (Option.some.inj h9)
    obtain ⟨h2, h3⟩ := ifB_bool h8
    have h1 : f = f' := beq_true h1
    rw [h1]
    exact .fn _ (isosV_iso a1 a' h2) (isosV_iso c1 c' h3)
  | .inil, y, h => by rw [nilNo_5 (beq_true h)]; exact .inil
  | .ifc t v, y, h => by
    obtain ⟨t', v', rfl, h9⟩ := onIfc_some (toB'_true h)
    obtain ⟨h1, h2⟩ := ifB_bool (Option.some.inj h9)
    have h1 : t = t' := beq_true h1
    rw [h1]
    exact .ifc _ (isoV_iso v v' h2)
  | .agg cs, y, h => by
    obtain ⟨cs', rfl, h9⟩ := onAgg_some (toB'_true h)
    exact .agg (isosV_iso cs cs' (Option.some.inj h9))
  | .bytes l n, y, h => by
    obtain ⟨l', n', rfl, h9⟩ := onBytes_some (toB'_true h)
    obtain ⟨h1, h2⟩ := ifB_bool (Option.some.inj h9)
    rw [beq_true h1, beq_true h2]
    exact .bytes _ _
  | .tup cs, y, h => by
    obtain ⟨cs', rfl, h9⟩ := onTup_some (toB'_true h)
    exact .tup (isosV_iso cs cs' (Option.some.inj h9))
  | .junk, y, h => by cases h
  | .yl _, y, h => by cases h
  | .any, y, h => by cases h
  | .lit _, y, h => by cases h
  | .raw r o, y, h => by
    obtain ⟨r', o', rfl, h9⟩ := onRaw_some (toB'_true h)
    obtain ⟨h1, h2⟩ := ifB_bool (Option.some.inj h9)
    rw [beq_true h1, beq_true h2]
    exact .raw _ _
theorem isosV_iso : ∀ (x y : List AV), AV.rec_1 (motive_1 := fun _ => AV → Bool) (motive_2 := fun _ => List AV → Bool)
    (fun x b => toB' (onBool b fun y => some (ifB x y (ifB y false true))))
    (fun k n b => toB' (onInt b fun j m => some (ifB (sameKind k j) (eqK n m) false)))
    (fun s b => toB' (onStr b fun r => some (strEq s r)))
    (fun b => Nat.beq (nilNo b) 1)
    (fun p q b => toB' (onPtr b fun p' q' => some (ifB (A p p') (Nat.beq q q') false)))
    (fun b => Nat.beq (nilNo b) 2)
    (fun p q l c o b => toB' (onSl b fun p' q' l' c' o' => some (ifB (A p p') (ifB (Nat.beq q q') (ifB (Nat.beq l l') (ifB (Nat.beq c c') (ifB o o' (ifB o' false true)) false) false) false) false)))
    (fun b => Nat.beq (nilNo b) 3)
    (fun p b => toB' (onMap b fun p' => some (A p p')))
    (fun b => Nat.beq (nilNo b) 4)
    (fun f _ _ i1 i2 b => toB' (onFn b fun f' a' c' => some (ifB (Nat.beq f f') (ifB (i1 a') (i2 c') false) false)))
    (fun b => Nat.beq (nilNo b) 5)
    (fun t _ i b => toB' (onIfc b fun t' v' => some (ifB (Nat.beq t t') (i v') false)))
    (fun _ i b => toB' (onAgg b fun cs => some (i cs)))
    (fun l n b => toB' (onBytes b fun l' n' => some (ifB (Nat.beq l l') (Nat.beq n n') false)))
    (fun _ i b => toB' (onTup b fun cs => some (i cs)))
    (fun _ => false) (fun _ _ => false) (fun _ => false)
    (fun r o b => toB' (onRaw b fun r' o' => some (ifB (Nat.beq r r') (Nat.beq o o') false)))
    (fun _ _ => false)
    (fun l => List.rec true (fun _ _ _ => false) l)
    (fun _ _ i is l => List.rec false (fun x r _ => ifB (i x) (is r) false) l) x y = true → IsoL A x y
  | [], [], _ => .nil
  | [], _ :: _, h => by cases h
  | _ :: _, [], h => by cases h
  | x :: xs, y :: ys, h => by
    obtain ⟨h1, h2⟩ := ifB_bool h
    exact .cons (isoV_iso x y h1) (isosV_iso xs ys h2)
end
theorem isoL_iso : ∀ (x y : List AV), isoL A x y = true → IsoL A x y
  | [], [], _ => .nil
  | [], _ :: _, h => by cases h
  | _ :: _, [], h => by cases h
  | x :: xs, y :: ys, h => by
    obtain ⟨h1, h2⟩ := ifB_bool (show ifB (isoV A x y) (isoL A xs ys) false = true from h)
    exact .cons (isoV_iso x y h1) (isoL_iso xs ys h2)
theorem isoE_cons {x y : AV × AV × Nat} {xs ys : List (AV × AV × Nat)} (h : isoE A (x :: xs) (y :: ys) = true) : Iso A x.1 y.1 ∧ Iso A x.2.1 y.2.1 ∧ x.2.2 = y.2.2 ∧ isoE A xs ys = true := by
  obtain ⟨h1, h⟩ := ifB_bool (show ifB (isoV A x.1 y.1) (ifB (isoV A x.2.1 y.2.1) (ifB (Nat.beq x.2.2 y.2.2) (isoE A xs ys) false) false) false = true from h)
  obtain ⟨h2, h⟩ := ifB_bool h
  obtain ⟨h3, h4⟩ := ifB_bool h
  exact ⟨isoV_iso _ _ h1, isoV_iso _ _ h2, beq_true h3, h4⟩
theorem isoN_eq : ∀ {x y : List Nat}, isoN x y = true → x = y
  | [], [], _ => rfl
  | [], _ :: _, h => by cases h
  | _ :: _, [], h => by cases h
  | x :: xs, y :: ys, h => by
    obtain ⟨h1, h2⟩ := ifB_bool (show ifB (Nat.beq x y) (isoN xs ys) false = true from h)
    rw [beq_true h1, isoN_eq h2]

/-! ### With no number changed they are the same -/
mutual
theorem Iso.eq (hA : ∀ a b, A a b = true → a = b) : ∀ {x y : AV}, Iso A x y → x = y
  | _, _, .bool _ => rfl
  | _, _, .int _ _ => rfl
  | _, _, .str _ => rfl
  | _, _, .pnil => rfl
  | _, _, .ptr _ h => by rw [hA _ _ h]
  | _, _, .snil => rfl
  | _, _, .sl _ _ _ _ h => by rw [hA _ _ h]
  | _, _, .mnil => rfl
  | _, _, .map h => by rw [hA _ _ h]
  | _, _, .fnil => rfl
  | _, _, .fn _ a c => by rw [a.eq hA, c.eq hA]
  | _, _, .inil => rfl
  | _, _, .ifc _ v => by rw [v.eq hA]
  | _, _, .agg c => by rw [c.eq hA]
  | _, _, .bytes _ _ => rfl
  | _, _, .tup c => by rw [c.eq hA]
  | _, _, .raw _ _ => rfl
theorem IsoL.eq (hA : ∀ a b, A a b = true → a = b) : ∀ {x y : List AV}, IsoL A x y → x = y
  | _, _, .nil => rfl
  | _, _, .cons v l => by rw [v.eq hA, l.eq hA]
end
theorem isoE_eq (hA : ∀ a b, A a b = true → a = b) : ∀ {x y : List (AV × AV × Nat)}, isoE A x y = true → x = y
  | [], [], _ => rfl
  | [], _ :: _, h => by cases h
  | _ :: _, [], h => by cases h
  | (a, b, c) :: xs, (a', b', c') :: ys, h => by
    obtain ⟨h1, h2, h3, h4⟩ := isoE_cons h
    have h1 : a = a' := h1.eq hA
    have h2 : b = b' := h2.eq hA
    have h3 : c = c' := h3
    rw [h1, h2, h3, isoE_eq hA h4]
theorem isoM_eq (hA : ∀ a b, A a b = true → a = b) {x y : Option Nat} (h : isoM A x y = true) : x = y := by
  cases x <;> cases y <;> first | rfl | (cases h; done) | skip
  rw [hA _ _ h]
theorem isoO_eq (hA : ∀ a b, A a b = true → a = b) {x y : AObj} (h : isoO A x y = true) : x = y := by
  cases x with
  | cells e z cs =>
    cases y <;> first | (cases h; done) | skip
    obtain ⟨h1, h⟩ := ifB_bool h
    obtain ⟨h2, h3⟩ := ifB_bool h
    have h1 := beq_true h1
    rw [h1, beq_true h2, (isoL_iso _ _ h3).eq hA]
  | map es c =>
    cases y <;> first | (cases h; done) | skip
    obtain ⟨h1, h2⟩ := ifB_bool h
    rw [beq_true h1, isoE_eq hA h2]
  | loop => cases h
  | dfr => cases h
  | iter m s l c =>
    cases y <;> first | (cases h; done) | skip
    obtain ⟨h1, h⟩ := ifB_bool h
    obtain ⟨h2, h⟩ := ifB_bool h
    obtain ⟨h3, h4⟩ := ifB_bool h
    rw [isoM_eq hA h1, beq_true h2, isoN_eq h3, beq_true h4]

/-! ### They mean the same -/
theorem Iso.one {x y : AV} (h : Iso A x y) : isOne x = isOne y := by cases h <;> rfl
mutual
theorem Iso.den (hA : ∀ a b, A a b = true → ρ2 a = ρ' b) : ∀ {x y : AV}, Iso A x y → ∀ {u : Value}, Den ρ' y u → Den ρ2 x u
  | _, _, .bool _, _, d => by cases d; exact .bool _
  | _, _, .int _ _, _, d => by cases d; exact .int _ _
  | _, _, .str _, _, d => by cases d; exact .str _
  | _, _, .pnil, _, d => by cases d; exact .pnil
  | _, _, .ptr _ h, _, d => by cases d with | ptr e => exact .ptr ((hA _ _ h).trans e)
  | _, _, .snil, _, d => by cases d; exact .snil
  | _, _, .sl _ _ _ _ h, _, d => by cases d with | sl e => exact .sl ((hA _ _ h).trans e) | sl0 e => exact .sl0 ((hA _ _ h).trans e)
  | _, _, .mnil, _, d => by cases d; exact .mnil
  | _, _, .map h, _, d => by cases d with | map e => exact .map ((hA _ _ h).trans e)
  | _, _, .fnil, _, d => by cases d; exact .fnil
  | _, _, .fn _ a c, _, d => by cases d with | fn d1 d2 => exact .fn (a.den hA d1) (c.den hA d2)
  | _, _, .inil, _, d => by cases d; exact .inil
  | _, _, .ifc _ v, _, d => by cases d with | ifc d1 => exact .ifc (v.den hA d1)
  | _, _, .agg c, _, d => by cases d with | agg d1 => exact .agg (c.cells hA d1)
  | _, _, .bytes _ _, _, d => by cases d
  | _, _, .tup c, _, d => by cases d with | tup d1 => exact .tup (c.den hA d1)
  | _, _, .raw _ _, _, d => by cases d; exact .raw _ _
theorem IsoL.den (hA : ∀ a b, A a b = true → ρ2 a = ρ' b) : ∀ {x y : List AV}, IsoL A x y → ∀ {u : List Value}, DenL ρ' y u → DenL ρ2 x u
  | _, _, .nil, _, d => by cases d; exact .nil
  | _, _, .cons v l, _, d => by cases d with | cons d1 d2 => exact .cons (v.den hA d1) (l.den hA d2)
theorem IsoL.cells (hA : ∀ a b, A a b = true → ρ2 a = ρ' b) : ∀ {x y : List AV}, IsoL A x y → ∀ {u : List Value}, Cells ρ' y u → Cells ρ2 x u
  | _, _, .nil, _, d => by cases d; exact .nil
  | _, _, .cons v l, _, d => by
    cases d with
    | bytes d2 =>
      cases v with
      | bytes => exact .bytes (l.cells hA d2)
    | one o d1 d2 => exact .one (v.one.trans o) (v.den hA d1) (l.cells hA d2)
end
theorem isoE_ents (hA : ∀ a b, A a b = true → ρ2 a = ρ' b) : ∀ {x y : List (AV × AV × Nat)} {ms : List MapEntry}, isoE A x y = true → Ents ρ' y ms → Ents ρ2 x ms
  | [], [], _, _, .nil => .nil
  | [], _ :: _, _, h, _ => by cases h
  | _ :: _, [], _, h, _ => by cases h
  | (a, b, c) :: xs, _ :: ys, _, h, .cons d1 d2 d3 d4 => by
    obtain ⟨h1, h2, h3, h4⟩ := isoE_cons h
    exact .cons (h1.den hA d1) (h2.den hA d2) (d3.trans h3.symm) (isoE_ents hA h4 d4)
theorem isoO_rel (hA : ∀ a b, A a b = true → ρ2 a = ρ' b) {x : Nat} {o2 o : AObj} {u : Obj} (h : isoO A o2 o = true) (d : ORel ρ' x o u) : ORel ρ2 x o2 u := by
  cases o2 with
  | cells e z cs =>
    cases o <;> first | (cases h; done) | skip
    obtain ⟨h1, h⟩ := ifB_bool h
    obtain ⟨h2, h3⟩ := ifB_bool h
    have h1 := beq_true h1
    have h2 := beq_true h2
    subst h1 h2
    cases d with
    | cells d1 d2 d3 => exact .cells ((isoL_iso _ _ h3).cells hA d1) d2 d3
  | map es c =>
    cases o <;> first | (cases h; done) | skip
    obtain ⟨h1, h2⟩ := ifB_bool h
    have h1 := beq_true h1
    subst h1
    cases d with
    | map d1 => exact .map (isoE_ents hA h2 d1)
  | loop => cases h
  | dfr => cases h
  | iter m s l c =>
    cases o <;> first | (cases h; done) | skip
    rename_i m0 s0 l0 c0
    obtain ⟨h1, h⟩ := ifB_bool h
    obtain ⟨h2, h⟩ := ifB_bool h
    obtain ⟨h3, h4⟩ := ifB_bool h
    have h2 := beq_true h2
    have h3 := isoN_eq h3
    have h4 := beq_true h4
    subst h2 h3 h4
    cases d with
    | @iter _ m' _ _ _ d1 =>
      refine .iter ?_
      cases m <;> cases m0 <;> first | (cases h1; done) | skip
      · cases m' with
        | none => trivial
        | some r => exact d1.elim
      · cases m' with
        | none => exact d1.elim
        | some r =>
          obtain ⟨q, hq⟩ := d1
          exact ⟨q, (hA _ _ h1).trans hq⟩

/-! ### One state for another -/
/-- What the new numbers stand for. -/
noncomputable def reRho (n0 : Nat) (ms : Pairs) (ρ' : Rho) : Rho := fun a => ifB (Nat.ble (Nat.succ a) n0) (ρ' a) (Option.rec (motive := fun _ => Option (Nat × Nat)) none ρ' (lookN ms a))
theorem reRho_old {n0 : Nat} {ms : Pairs} {a : Nat} (h : a < n0) : reRho n0 ms ρ' a = ρ' a := by
  unfold reRho
  rw [Nat.ble_eq_true_of_le h]
  rfl
theorem reRho_new {n0 : Nat} {ms : Pairs} {a : Nat} (h : n0 ≤ a) : reRho n0 ms ρ' a = (lookN ms a).bind ρ' := by
  have : Nat.ble (Nat.succ a) n0 = false := by
    cases hb : Nat.ble (Nat.succ a) n0 with
    | false => rfl
    | true => have := Nat.le_of_ble_eq_true hb; omega
  unfold reRho
  rw [this]
  cases lookN ms a <;> rfl
theorem lookN_mem : ∀ {ms : Pairs} {a b : Nat}, lookN ms a = some b → (a, b) ∈ ms
  | [], _, _, h => by cases h
  | (x, y) :: ms, a, b, h => by
    have h : ifB (Nat.beq x a) (some y) (lookN ms a) = some b := h
    rcases ifB_or h with ⟨h1, h2⟩ | ⟨_, h2⟩
    · rw [beq_true h1, Option.some.inj h2]; exact List.mem_cons_self
    · exact List.mem_cons_of_mem _ (lookN_mem h2)
theorem allP_mem {f : Nat × Nat → Bool} : ∀ {ms : Pairs}, allP f ms = true → ∀ p ∈ ms, f p = true
  | [], _, _, h => by cases h
  | x :: ms, h, p, hp => by
    obtain ⟨h1, h2⟩ := ifB_bool (show ifB (f x) (allP f ms) false = true from h)
    rcases List.mem_cons.1 hp with rfl | hp
    · exact h1
    · exact allP_mem h2 p hp
theorem allN_at {f : Nat → Bool} : ∀ {n : Nat}, allN f n = true → ∀ b, b < n → f b = true
  | 0, _, _, h => by omega
  | n + 1, h, b, hb => by
    obtain ⟨h1, h2⟩ := ifB_bool (show ifB (f n) (allN f n) false = true from h)
    by_cases e : b = n
    · rw [e]; exact h1
    · exact allN_at h2 b (by omega)
theorem sndIn_false : ∀ {ms : Pairs} {b : Nat}, sndIn b ms = false → ∀ p ∈ ms, p.2 ≠ b
  | [], _, _, _, h => by cases h
  | x :: ms, b, h, p, hp => by
    have h : ifB (Nat.beq x.2 b) true (sndIn b ms) = false := h
    rcases ifB_or h with ⟨_, h2⟩ | ⟨h1, h2⟩
    · cases h2
    · rcases List.mem_cons.1 hp with rfl | hp
      · intro e; rw [e] at h1; simp at h1
      · exact sndIn_false h2 p hp
theorem apartP_inj : ∀ {ms : Pairs}, apartP ms = true → ∀ {a a' b : Nat}, (a, b) ∈ ms → (a', b) ∈ ms → a = a'
  | [], _, _, _, _, h, _ => by cases h
  | x :: ms, h, a, a', b, h1, h2 => by
    have h : ifB (sndIn x.2 ms) false (apartP ms) = true := h
    rcases ifB_or h with ⟨_, h3⟩ | ⟨h3, h4⟩
    · cases h3
    · rcases List.mem_cons.1 h1 with e1 | g1 <;> rcases List.mem_cons.1 h2 with e2 | g2
      · have := e1.trans e2.symm
        exact (Prod.mk.inj this).1
      · subst e1; exact (sndIn_false h3 _ g2 rfl).elim
      · subst e2; exact (sndIn_false h3 _ g1 rfl).elim
      · exact apartP_inj h4 g1 g2
theorem okA_rho {n0 : Nat} {ms : Pairs} {a b : Nat} (h : okA n0 ms a b = true) : reRho n0 ms ρ' a = ρ' b := by
  rcases ifB_or (show ifB (Nat.ble (Nat.succ a) n0) (Nat.beq a b) (Option.rec (motive := fun _ => Bool) false (fun c => Nat.beq c b) (lookN ms a)) = true from h) with ⟨h1, h2⟩ | ⟨h1, h2⟩
  · rw [reRho_old (ble_true h1), beq_true h2]
  · have hge : n0 ≤ a := by
      rcases Nat.lt_or_ge a n0 with hlt | hge
      · rw [Nat.ble_eq_true_of_le hlt] at h1; cases h1
      · exact hge
    rw [reRho_new hge]
    cases hl : lookN ms a with
    | none => rw [hl] at h2; cases h2
    | some c => rw [hl] at h2; rw [← beq_true (show Nat.beq c b = true from h2)]; rfl
theorem match_ok {v2 v : AV} {u : Value} {ms : Pairs} (hw : WRel base ρ S w) (h : checkK S.next ms S v2 S2 v S' = true) (hle : ρ.le ρ') (hk : Keep ρ ρ' S S') (hw' : WRel base ρ' S' w') (hv : Den ρ' v u) :
    ∃ ρ2, ρ.le ρ2 ∧ Keep ρ ρ2 S S2 ∧ WRel base ρ2 S2 w' ∧ Den ρ2 v2 u := by
  obtain ⟨c1, h⟩ := ifB_bool (show ifB _ _ false = true from h)
  obtain ⟨c2, h⟩ := ifB_bool (show ifB _ _ false = true from h)
  obtain ⟨c3, h⟩ := ifB_bool (show ifB _ _ false = true from h)
  obtain ⟨c4, c5⟩ := ifB_bool (show ifB _ _ false = true from h)
  have hn := ble_true c1
  have hp : ∀ {a b : Nat}, lookN ms a = some b → S.next ≤ a ∧ a < S2.next ∧ S.next ≤ b := fun hl => by
    obtain ⟨d1, d2⟩ := ifB_bool (show ifB _ _ false = true from allP_mem c2 _ (lookN_mem hl))
    obtain ⟨d2, d3⟩ := ifB_bool (show ifB _ _ false = true from d2)
    exact ⟨ble_true d1, ble_true d2, ble_true d3⟩
  have hA : ∀ a b, okA S.next ms a b = true → reRho S.next ms ρ' a = ρ' b := fun a b => okA_rho
  have hold : ∀ {b : Nat} {o2 : AObj}, b < S.next → S2.heap.getK b = some o2 → ∃ o, S'.heap.getK b = some o ∧ isoO (okA S.next ms) o2 o = true ∧ (S.heap.getK b = some o → o2 = o) := fun {b o2} hb ho => by
    have c := allN_at c5 b (by omega)
    rw [Nat.ble_eq_true_of_le hb] at c
    have c : oldOK S.next ms S S2 S' b = true := c
    unfold oldOK at c
    rw [ho] at c
    cases h1 : S'.heap.getK b with
    | none => rw [h1] at c; cases c
    | some o =>
      rw [h1] at c
      obtain ⟨c6, c7⟩ := ifB_bool (show ifB (isoO (okA S.next ms) o2 o) _ false = true from c)
      refine ⟨o, rfl, c6, fun h2 => ?_⟩
      rw [h2] at c7
      rcases ifB_or (show ifB (isoO Nat.beq o2 o) true (ifB (Nat.beq (hashO o) (hashO o)) false true) = true from c7) with ⟨c8, _⟩ | ⟨_, c8⟩
      · exact isoO_eq (fun a b h => beq_true h) c8
      · simp [ifB] at c8
  have hnew : ∀ {b : Nat} {o2 : AObj}, S.next ≤ b → b < S2.next → S2.heap.getK b = some o2 → ∃ c o, lookN ms b = some c ∧ S'.heap.getK c = some o ∧ isoO (okA S.next ms) o2 o = true := fun {b o2} hb hb2 ho => by
    have c := allN_at c5 b hb2
    have e1 : Nat.ble (Nat.succ b) S.next = false := by
      cases hx : Nat.ble (Nat.succ b) S.next with
      | false => rfl
      | true => have := ble_true hx; omega
    rw [e1] at c
    have c : newOK S.next ms S2 S' b = true := c
    unfold newOK at c
    rw [ho] at c
    cases h1 : lookN ms b with
    | none => rw [h1] at c; cases c
    | some d =>
      rw [h1] at c
      cases h2 : S'.heap.getK d with
      | none =>
        have c : (Option.rec (motive := fun _ => Bool) false (fun o => isoO (okA S.next ms) o2 o) (S'.heap.getK d) : Bool) = true := c
        rw [h2] at c; cases c
      | some o =>
        have c : (Option.rec (motive := fun _ => Bool) false (fun o => isoO (okA S.next ms) o2 o) (S'.heap.getK d) : Bool) = true := c
        rw [h2] at c
        exact ⟨d, o, rfl, h2, c⟩
  -- the block of S' for a block of S2
  have himg : ∀ {b : Nat} {o2 : AObj} {rx : Nat × Nat}, S2.heap.getK b = some o2 → reRho S.next ms ρ' b = some rx → ∃ c o, S'.heap.getK c = some o ∧ ρ' c = some rx ∧ isoO (okA S.next ms) o2 o = true ∧ ((b < S.next ∧ c = b) ∨ (S.next ≤ b ∧ S.next ≤ c ∧ (b, c) ∈ ms)) := fun {b o2 rx} ho hr => by
    rcases Nat.lt_or_ge b S.next with hb | hb
    · obtain ⟨o, h1, h2, _⟩ := hold hb ho
      exact ⟨b, o, h1, (reRho_old (ρ' := ρ') (ms := ms) hb).symm.trans hr, h2, .inl ⟨hb, rfl⟩⟩
    · rw [reRho_new hb] at hr
      cases hl : lookN ms b with
      | none => rw [hl] at hr; cases hr
      | some d =>
        rw [hl] at hr
        obtain ⟨_, p2, p3⟩ := hp hl
        obtain ⟨c, o, h1, h2, h3⟩ := hnew hb p2 ho
        rw [hl] at h1
        cases h1
        exact ⟨d, o, h2, hr, h3, .inr ⟨hb, p3, lookN_mem hl⟩⟩
  refine ⟨reRho S.next ms ρ', fun b r e => ?_, ⟨hn, fun b hb e => ?_⟩, ?_, (isoV_iso _ _ c4).den hA hv⟩
  · have hb : b < S.next := by
      rcases Nat.lt_or_ge b S.next with hb | hb
      · exact hb
      · rw [hw.dom b hb] at e; cases e
    rw [reRho_old hb]
    exact hle _ _ e
  · obtain ⟨k1, k2⟩ := hk.2 b hb e
    refine ⟨by rw [reRho_old hb]; exact k1, fun o2 ho => ?_⟩
    obtain ⟨o, h1, _, h3⟩ := hold hb ho
    have h4 := k2 o h1
    rw [h3 h4]
    exact h4
  · refine { low := hw'.low, size := hw'.size, os := hw'.os, output := hw'.output, tape := hw'.tape, dom := fun b hb => ?_, rng := fun b r x e => ?_, inj := fun b c r x y hb hc eb ec => ?_, obj := fun b o r x hb e => ?_ }
    · rw [reRho_new (by omega)]
      cases hl : lookN ms b with
      | none => rfl
      | some d => have := (hp hl).2.1; omega
    · rcases Nat.lt_or_ge b S.next with hb | hb
      · rw [reRho_old hb] at e; exact hw'.rng b r x e
      · rw [reRho_new hb] at e
        cases hl : lookN ms b with
        | none => rw [hl] at e; cases e
        | some d => rw [hl] at e; exact hw'.rng d r x e
    · obtain ⟨o1, hb⟩ := hb
      obtain ⟨o2, hc⟩ := hc
      obtain ⟨b', ob, q1, q2, _, q3⟩ := himg hb eb
      obtain ⟨c', oc, t1, t2, _, t3⟩ := himg hc ec
      have he : b' = c' := hw'.inj b' c' r x y ⟨_, q1⟩ ⟨_, t1⟩ q2 t2
      rcases q3 with ⟨l1, l2⟩ | ⟨l1, l2, l3⟩ <;> rcases t3 with ⟨n1, n2⟩ | ⟨n1, n2, n3⟩
      · omega
      · omega
      · omega
      · rw [← he] at n3
        exact apartP_inj c3 l3 n3
    · obtain ⟨c, o', q1, q2, q3, _⟩ := himg hb e
      obtain ⟨u', hu, hrel⟩ := hw'.obj c o' r x q1 q2
      exact ⟨u', hu, isoO_rel hA q3 hrel⟩
end Go.Proofs.YtpllompnfhpfmaaGreatDoor.Exe
namespace Go.Proofs.YtpllompnfhpfmaaGreatDoor.Exe
open Go
variable {Lg : Laid} {base : Base Lg} {w : World} {P : Program} {ρ : Rho} {S : AS} {t : T} {o : Oper} {c : K} {z : AV × Option AS} {a : Act}
variable {ops : Array Oper} {N : Nat}

/-! ### What is looked at when a region is compiled -/
theorem ancOk_at {os : List Oper} {anc : List Nat} : ∀ {n : Nat}, ancOk os anc n = true → ∀ i o, i < n → os[i]? = some o → (o.after.toList.all fun e => !Region.binds .any e || Nat.blt e.on i) = true ∧ subN (anc.getD i 0) (ancNow anc o) = true
  | 0, _, _, _, h, _ => by omega
  | n + 1, h, i, o, hi, ho => by
    unfold ancOk at h
    rw [Bool.and_eq_true] at h
    by_cases hin : i = n
    · subst hin
      rw [ho] at h
      simpa using h.1
    · exact ancOk_at h.2 i o (by omega) ho

theorem ancNow_test {anc : List Nat} : ∀ (l : List Edge) (m j : Nat), (l.foldl (fun m e => bif Region.binds .any e then m ||| (bitN e.on ||| anc.getD e.on 0) else m) m).testBit j = true → m.testBit j = true ∨ ∃ e ∈ l, Region.binds .any e = true ∧ (j = e.on ∨ Anc anc e.on j)
  | [], m, j, h => .inl h
  | e :: l, m, j, h => by
    rw [List.foldl_cons] at h
    rcases ancNow_test l _ j h with h1 | ⟨e', h1, h2⟩
    · cases hb : Region.binds .any e with
      | false => rw [hb] at h1; exact .inl h1
      | true =>
        rw [hb] at h1
        rcases (or_test _ _ _).1 h1 with h1 | h1
        · exact .inl h1
        · refine .inr ⟨e, List.mem_cons_self, hb, ?_⟩
          rcases (or_test _ _ _).1 h1 with h1 | h1
          · rw [bitN_test, decide_eq_true_eq] at h1
            exact .inl h1.symm
          · exact .inr h1
    · exact .inr ⟨e', List.mem_cons_of_mem _ h1, h2⟩

theorem drawnOk_of {anc : List Nat} {M n : Nat} (h1 : ancOk ops.toList anc (ops.toList.map (compOper P ops)).length = true) (h2 : clashOk ops.toList (ops.toList.map (compOper P ops)) anc M = true) (h3 : dstsOk n ops = true) (hn : n ≤ N) : DrawnOk P ops anc M N := by
  have hlen : (ops.toList.map (compOper P ops)).length = ops.size := by simp
  have hlt : ∀ {i o}, ops[i]? = some o → i < ops.size := fun h => (Array.getElem?_eq_some_iff.1 h).1
  have hl : ∀ {i o}, ops[i]? = some o → ops.toList[i]? = some o := fun h => by rw [Array.getElem?_toList]; exact h
  have hclash : ∀ {i j o o' d}, ops[i]? = some o → ops[j]? = some o' → o'.dst = some d →
      ((!(looksA (compOper P ops o)).contains d || (anc.getD i 0).testBit j || (M.testBit j && (Nat.beq i j || (anc.getD j 0).testBit i))) = true) ∧
      ((Nat.beq i j || (match o.dst with | some d' => !Nat.beq d d' || (M.testBit j && (anc.getD j 0).testBit i) || (M.testBit i && (anc.getD i 0).testBit j) | none => true)) = true) := by
    intro i j o o' d ho ho' hd
    unfold clashOk at h2
    have h := List.all_eq_true.1 h2 j (List.mem_range.2 (by rw [hlen]; exact hlt ho'))
    rw [hl ho'] at h
    simp only [Option.bind_some, hd] at h
    have h := List.all_eq_true.1 h i (List.mem_range.2 (by rw [hlen]; exact hlt ho))
    rw [as_get, ho, hl ho] at h
    simp only [Option.map_some, Option.getD_some, Option.bind_some, Bool.and_eq_true] at h
    exact h
  refine { edges := fun i o ho e he hb => ?_, must := fun i o ho j hj => ?_, reads := fun i j o o' d ho ho' hd hm => ?_, dsts := fun i j o o' d ho ho' hne hd hd' => ?_, tmps := fun i o d ho hd => Nat.lt_of_lt_of_le (dstsOk_at h3 ho d hd) hn }
  · have h := (ancOk_at h1 i o (by rw [hlen]; exact hlt ho) (hl ho)).1
    have h := List.all_eq_true.1 h e (by simpa using he)
    rw [hb] at h
    exact blt_lt (by simpa using h)
  · have h := (ancOk_at h1 i o (by rw [hlen]; exact hlt ho) (hl ho)).2
    have h := subN_test h hj
    rcases ancNow_test _ 0 j h with h | ⟨e, he, hb, h⟩
    · rw [zero_test] at h; cases h
    · exact ⟨e, by simpa using he, hb, h⟩
  · have h := (hclash ho ho' hd).1
    simp only [Bool.or_eq_true, Bool.not_eq_true', Bool.and_eq_true] at h
    rcases h with (h | h) | ⟨h, h'⟩
    · have : (looksA (compOper P ops o)).contains d = true := by simpa using hm
      rw [this] at h; cases h
    · exact .inl h
    · exact .inr ⟨h, h'.imp (fun h => beq_true h) id⟩
  · have h := (hclash ho ho' hd').2
    rw [hd] at h
    simp only [Bool.or_eq_true, Bool.not_eq_true', Bool.and_eq_true] at h
    rcases h with h | (h | h) | h
    · exact absurd (beq_true h) hne
    · exact absurd rfl (beq_false h)
    · exact .inl h
    · exact .inr h

theorem drawn_region {cl : Cl} {Q : Exit → Act → World → Prop} {k : KL} {n : Nat} {id : Nat} {ro : Option Nat} (hm : P.follows .mixedOrders = true) (hN : NamesOk P) (hcl : ClOK Lg P cl) (hd : dstsOk n ops = true) (hn : n ≤ N) (hr : RelA base ρ S w t a N) (h : runL (compDrawn P ops) cl t S k = some z) (hq : Ends base ρ S k z N (Q .normal)) :
    (Code.region id ops true).wpIn (FW ro) 0 P Q a w := by
  refine wpIn_region_any hm ?_
  unfold compDrawn at h
  dsimp only at h
  generalize hanc : ancs ops.toList [] = anc at h
  generalize horder : orderL (ops.toList.map (compOper P ops)).length anc ((List.range (ops.toList.map (compOper P ops)).length).map (classA ops.toList (ops.toList.map (compOper P ops)) anc)) (2 * (ops.toList.map (compOper P ops)).length + 1) 0 0 0 0 = res at h
  generalize kindsOf res = M at h
  cases hc : (chkL (ops.toList.map (compOper P ops)) anc M res 0 0 0 0 && ancOk ops.toList anc (ops.toList.map (compOper P ops)).length && clashOk ops.toList (ops.toList.map (compOper P ops)) anc M && !ops.toList.any isSelect) with
  | false => rw [hc] at h; cases h
  | true =>
    rw [hc] at h
    simp only [Bool.and_eq_true] at hc
    obtain ⟨⟨⟨h1, h2⟩, h3⟩, _⟩ := hc
    have h : runL (compW (ops.toList.map (compOper P ops)) res) cl t S k = some z := h
    have hdr := drawnOk_of (N := N) h2 h3 hd hn
    have hnone : ∀ j, (Array.replicate ops.size false).getD j false = false := fun j => by
      rw [Array.getD_eq_getD_getElem?, Array.getElem?_replicate]
      split <;> rfl
    have hI : Inv base P ops anc M N ρ S (fun j => (Array.replicate ops.size false).getD j false = true) 0 0 0 0 (fun _ => 0) ρ S { w with drawn := w.drawn + 1 } t a :=
      { world := hr.world.drew', le := ρ.le_refl, keep := .refl ρ S, defers := hr.defers, size := hr.size, den := fun n _ => hr.tmps n,
        sub := fun j hj => (by rw [hnone] at hj; cases hj),
        main := fun j hj => (by rw [zero_test] at hj; cases hj),
        ancL := fun j hj => (by rw [hnone] at hj; cases hj),
        ancE := fun j hj => (by rw [zero_test] at hj; cases hj),
        inA := fun j hj => (by rw [zero_test] at hj; cases hj),
        vE := fun j hj => (by rw [zero_test] at hj; cases hj),
        fact := fun j o _ hj => (by rw [zero_test] at hj; cases hj),
        ids := fun j1 j2 o1 o2 _ _ hj => (by rw [zero_test] at hj; cases hj) }
    obtain ⟨res', E', F', V', idf', S', t', hI', hr', hc', hb'⟩ := stage hdr res 0 0 0 (fun _ => 0) S t hI h h1
    refine drawn_go hN hcl hdr hq ops.size _ _ _ _ _ _ res' _ _ _ _ _ (by simp) ?_ hI' hb' hr' hc'
    unfold unl
    have := List.countP_le_length (p := fun b => !b) (l := (Array.replicate ops.size false).toList)
    simpa using this

/-! ### Code -/
def exOf : AX → Exit
  | .normal => .normal
  | .ret => .ret
  | .exit i => .exit i
/-- What the end of some code must meet. -/
def Outs {Lg : Laid} (base : Base Lg) (ρ : Rho) (S : AS) (k : KX) (z : AV × Option AS) (N : Nat) (Q : Exit → Act → World → Prop) : Prop :=
  ∀ x t' S' ρ' a' w', k x t' S' = some z → ρ.le ρ' → Keep ρ ρ' S S' → RelA base ρ' S' w' t' a' N → Q (exOf x) a' w'
theorem Outs.step {k : KX} {Q : Exit → Act → World → Prop} (h : Outs base ρ S k z N Q) {ρ' : Rho} {S' : AS} (hl : ρ.le ρ') (hk : Keep ρ ρ' S S') : Outs base ρ' S' k z N Q :=
  fun x t' S'' ρ'' a' w' h1 h2 h3 h4 => h x t' S'' ρ'' a' w' h1 (Rho.le_trans hl h2) (hk.trans h3) h4

def AgOK (Lg : Laid) (P : Program) (ag : Ag) (m : Nat) : Prop :=
  ∀ (ro : Option Nat) (rd : Bool) (n N : Nat) (base : Base Lg) (b : Code) (ρ : Rho) (S : AS) (w : World) (t : T) (a : Act) (k : KX) (z : AV × Option AS) (Q : Exit → Act → World → Prop), (ro = none ∨ rd = true) → n ≤ N → RelA base ρ S w t a N → ag (.loop (comp P rd n b)) t S k = some z → Outs base ρ S k z N Q → Code.roundsIn (FW ro) 0 P b Q m a w

theorem loop_round {cl : Cl} {ag : Ag} {m n : Nat} {b : Code} {ro : Option Nat} {rd : Bool} (hro : ro = none ∨ rd = true) (hag : AgOK Lg P ag m) (hn : n ≤ N)
    (IH : ∀ (ρ : Rho) (S : AS) (w : World) (t : T) (a : Act) (k : KX) (Q : Exit → Act → World → Prop), RelA base ρ S w t a N → runA (comp P rd n b) cl ag t S k = some z → Outs base ρ S k z N Q → b.wpIn (FW ro) 0 P Q a w)
    {k : KX} {Q : Exit → Act → World → Prop} (hr : RelA base ρ S w t a N) (h : runA (.loop (comp P rd n b)) cl ag t S k = some z) (hq : Outs base ρ S k z N Q) : Code.roundsIn (FW ro) 0 P b Q (m + 1) a w := by
  rw [roundsIn_succ]
  refine IH ρ S w t a _ _ hr (show runA (comp P rd n b) cl ag t S (fun x t S => AX.rec (ag (.loop (comp P rd n b)) t S k) (k .ret t S) (fun i => k (.exit i) t S) x) = some z from h) fun x t' S' ρ' a' w' h1 h2 h3 h4 => ?_
  cases x with
  | normal => exact hag ro rd n N base b ρ' S' w' t' a' k z Q hro hn h4 h1 (hq.step h2 h3)
  | ret => exact hq .ret t' S' ρ' a' w' h1 h2 h3 h4
  | exit i => exact hq (.exit i) t' S' ρ' a' w' h1 h2 h3 h4

/-! ### A scope, in whatever frame -/
section
variable {b : Frame} {kk : List Item} {cs : List Frame}
theorem stepR_scope {c : Code} : step P (lone (b.atR a (.code (.scope c) :: kk)) cs w) = .next (lone (b.atR a (.code c :: .inScope c :: kk)) cs w) :=
  step_lone_go (by simp [stepG, stepG.exec, Frame.atR])
theorem stepR_inScope {c : Code} : step P (lone (b.atR a (.inScope c :: kk)) cs w) = .next (lone (b.atR a kk) cs w) :=
  step_lone_go (by simp [stepG, stepG.exec, Frame.atR])
end
theorem wpIn_scope {F : Fence} {m : Nat} {Q : Exit → Act → World → Prop} {c : Code} (h : c.wpIn F m P (Exit.noGoto Q) a w) : (Code.scope c).wpIn F m P Q a w := by
  intro b k cs hro hb hr
  have h0 : (lone (b.atR a (.code (.scope c) :: k)) cs w).fenced P F := fenced_calm hb hr rfl
  obtain ⟨e, a₁, w₁, hq, harr⟩ := h b (.inScope c :: k) cs hro hb hr
  cases e with
  | normal => exact ⟨.normal, a₁, w₁, hq, .head h0 stepR_scope (StepsIn.trans harr (.one (fenced_calm hb hr rfl) stepR_inScope))⟩
  | exit id =>
    have hx : exitTo id (.inScope c :: k) = exitTo id k := by simp [exitTo]
    exact ⟨.exit id, a₁, w₁, hq, fun k' hk => .head h0 stepR_scope (harr.1 k' (by rw [hx]; exact hk)), fun hr' hk => let ⟨k₁, h1, h2⟩ := harr.2 hr' (by rw [hx]; exact hk); ⟨k₁, h1, .head h0 stepR_scope h2⟩⟩
  | goto l => exact hq.elim
  | ret => exact ⟨_, a₁, w₁, hq, .of_steps (.one h0 stepR_scope) harr⟩
  | panic ch => exact ⟨_, a₁, w₁, hq, .of_steps (.one h0 stepR_scope) harr⟩
  | outgrown => exact ⟨_, a₁, w₁, hq, .of_steps (.one h0 stepR_scope) harr⟩

/-! ### A range over a function -/
theorem run_getLoop {w : World} {r : Nat} {l : Loop} (h : w.heap[r]? = some (.loop l)) : (Instr.getLoop r).run P w = .ok l w := by simp [Instr.getLoop, getObj, Sem.run, h]
theorem run_setLoop {w : World} {r : Nat} {l : Loop} (ob : Obj) (h : w.heap[r]? = some (.loop l)) : (setObj r ob).run P w = .ok () (w.putObj r ob) := by simp [setObj, Sem.run, h, World.putObj]
theorem WRel.loop (h : WRel base ρ S w) {b r x st n : Nat} {pe : Option Nat} {t : T} {ps : List (List D4)} {asg c : Code} (hb : S.heap.getK b = some (.loop st pe t ps asg c n)) (e : ρ b = some (r, x)) :
    ∃ l : Loop, w.heap[r]? = some (.loop l) ∧ stNo l.state = st ∧ pendOf pe = l.pending ∧ (∀ m, Den ρ (evTmp (pathOf m) t) (l.tmps.getD m undef)) ∧ ps = l.params.toList.map pathOf ∧ (∀ p ∈ l.params, p < n) ∧ l.assign = asg ∧ l.body = c ∧ n ≤ l.tmps.size := by
  obtain ⟨u, hu, ho⟩ := h.obj b _ r x hb e
  cases ho with
  | loop a1 a2 a3 a4 a5 a6 a7 a8 => exact ⟨_, hu, a1, a2, a3, a4, a5, a6, a7, a8⟩
theorem run_newObj (o : Obj) (w : World) : (newObj o).run P w = .ok w.heap.size (w.alloc o) := by
  simp [newObj]
  rfl
theorem run_enterLoop (fn : FuncId) (tmps : Array Value) (ps : Array Tmp) (asg body : Code) (w : World) :
    (Instr.enterLoop fn tmps ps asg body none).run P w = .ok (w.heap.size + 1, [{ target := .collected w.heap.size, args := #[] }]) ((w.alloc (.deferred (some []))).alloc (.loop { state := .ready, pending := none, fn, tmps, params := ps, assign := asg, body, defers := w.heap.size })) := by
  have hsz : (w.alloc (.deferred (some []))).heap.size = w.heap.size + 1 := by show (w.heap.push _).size = _; simp
  simp only [Instr.enterLoop, Sem.run_bind, run_newObj, Result.andThen_ok, Sem.run_pure, hsz]
theorem run_endLoop {w : World} {r : Nat} {l : Loop} (h : w.heap[r]? = some (.loop l)) (hs : stNo l.state ≠ 1) : (Instr.endLoop r).run P w = .ok l.pending (w.putObj r (.loop { l with state := .exhausted })) := by
  obtain ⟨st, pe, fn, tmps, params, assign, body, defers⟩ := l
  cases st with
  | busy => exact absurd rfl hs
  | ready => simp [Instr.endLoop, run_getLoop h, run_setLoop _ h]
  | done => simp [Instr.endLoop, run_getLoop h, run_setLoop _ h]
  | exhausted => simp [Instr.endLoop, run_getLoop h, run_setLoop _ h]

theorem wpIn_pend {ro : Option Nat} {Q : Exit → Act → World → Prop} {pe : Option Nat} {k : KX} {n : Nat} (hr : RelA base ρ S w t a N) (h : outK pe t S k = some z) (hq : Outs base ρ S k z N Q) :
    (match pendOf pe with | none => Q .normal a w | some c => c.wpIn (FW ro) n P Q a w) := by
  match pe, h with
  | none, h => exact hq .normal t S ρ a w h ρ.le_refl (.refl ρ S) hr
  | some 0, h => exact wpIn_ret (hq .ret t S ρ a w h ρ.le_refl (.refl ρ S) hr)
  | some (i + 1), h => exact wpIn_exit (hq (.exit i) t S ρ a w h ρ.le_refl (.refl ρ S) hr)

theorem range_wp {cl : Cl} {ag : Ag} {n : Nat} {f : Operand} {f' : AR} {ps : Array Tmp} {asg b : Code} {k : KX} {Q : Exit → Act → World → Prop} (hN : NamesOk P) (hcl : ClOK Lg P cl) (hn : n ≤ N) (hps : tmpsOk n ps = true) (hf : ofOperand f = some f') (hr : RelA base ρ S w t a N)
    (h : runA (.range f' (ps.toList.map pathOf) asg b n) cl ag t S k = some z) (hq : Outs base ρ S k z N Q) : (Code.rangeFunc f ps asg b).wpIn (FW none) 0 P Q a w := by
  have h := newK_some (k := fun d S => newK S (.loop 0 none t (ps.toList.map pathOf) asg b n) fun l S => onFn (ev f' t) fun g a b => cl (.fn g) (List.append a (.yl l :: b)) S fun _ S =>
    onLoop S l fun st pe t' ps asg c n => ifB (Nat.beq st 1) none (outK pe (t.push (.map d)) (overK (putK S l (.loop 3 pe t' ps asg c n)) l) k)) h
  have h := newK_some h
  obtain ⟨g, fa, fb, hv, h⟩ := onFn_some h
  refine wpIn_rangeFunc fun fn _ => ?_
  have hw1 := hr.world.alloc (.dfr true) (.deferred (some [])) 0 .dfr
  have hle1 : ρ.le (ρ.add S.next (w.heap.size, 0)) := Rho.le_add (hr.world.dom _ (Nat.le_refl _))
  have hpsn : ∀ p ∈ ps, p < n := fun p hp => ble_true (List.all_eq_true.1 hps p (by simpa using hp))
  have hle2 : (ρ.add S.next (w.heap.size, 0)).le ((ρ.add S.next (w.heap.size, 0)).add (Nat.succ S.next) ((w.alloc (.deferred (some []))).heap.size, 0)) := Rho.le_add (hw1.dom _ (Nat.le_refl _))
  have hw2 := hw1.alloc (.loop 0 none t (ps.toList.map pathOf) asg b n) (.loop { state := .ready, pending := none, fn, tmps := a.tmps, params := ps, assign := asg, body := b, defers := w.heap.size }) 0
    (.loop rfl rfl (fun m => (hr.tmps m).mono (Rho.le_trans hle1 hle2)) rfl hpsn rfl rfl (by rw [hr.size]; exact hn))
  have hd := hr.tmps.ev f f' hf
  rw [hv] at hd
  generalize hef : a.eval f = vf at hd
  cases hd with
  | @fn _ _ _ fi ca h1 h2 =>
  have hle := Rho.le_trans hle1 hle2
  have hsz : (w.alloc (.deferred (some []))).heap.size = w.heap.size + 1 := by show (w.heap.push _).size = _; simp
  have hyl : Den ((ρ.add S.next (w.heap.size, 0)).add (Nat.succ S.next) ((w.alloc (.deferred (some []))).heap.size, 0)) (.yl (Nat.succ S.next)) (.func (.yield (w.heap.size + 1)) #[] #[]) := by
    have := Rho.add_same (ρ.add S.next (w.heap.size, 0)) (Nat.succ S.next) ((w.alloc (.deferred (some []))).heap.size, 0)
    rw [hsz] at this ⊢
    exact .yl this
  obtain ⟨hcalls, fnn, hfn, hbody⟩ := hcl base _ _ _ (.fn g) _ (fi ++ (.func (.yield (w.heap.size + 1)) #[] #[] :: ca)) _ z (rangePost (FW none) 0 P (w.heap.size + 1) Q { a with defers := [{ target := .collected w.heap.size, args := #[] }] ++ a.defers }) hw2 ((h1.mono hle).append (.cons hyl (h2.mono hle))) h (fun v S' ρ' w' u hk k1 k2 k3 k4 => by
    obtain ⟨st, pe, t', ps', asg', c', n', hb, hk⟩ := onLoop_some hk
    rcases ifB_or (show ifB (Nat.beq st 1) none (outK pe (t.push (.map S.next)) (overK (putK S' (Nat.succ S.next) (.loop 3 pe t' ps' asg' c' n')) (Nat.succ S.next)) k) = some z from hk) with ⟨_, hk⟩ | ⟨hst, hk⟩
    · cases hk
    have hρl := k1 _ _ (Rho.add_same (ρ.add S.next (w.heap.size, 0)) (Nat.succ S.next) ((w.alloc (.deferred (some []))).heap.size, 0))
    rw [hsz] at hρl
    obtain ⟨l, hl, a1, a2, a3, a4, a5, a6, a7, a8⟩ := k3.loop hb hρl
    refine ⟨_, _, run_endLoop hl (by rw [a1]; exact beq_false hst), ?_⟩
    have hw4 : WRel base ρ' (overK (putK S' (Nat.succ S.next) (.loop 3 pe t' ps' asg' c' n')) (Nat.succ S.next)) (w'.putObj (w.heap.size + 1) (.loop { l with state := .exhausted })) := (k3.put ⟨_, hb⟩ hρl (ORel.loop (r := { l with state := .exhausted }) (x := 0) (st := 3) (pe := pe) rfl a2 a3 a4 a5 a6 a7 a8)).del _
    have hkeep : Keep ρ ρ' S (overK (putK S' (Nat.succ S.next) (.loop 3 pe t' ps' asg' c' n')) (Nat.succ S.next)) := (Keep.new.trans (Keep.new.trans k2)).trans ((Keep.put hρl).trans (Keep.del hρl))
    have hkl : ρ.le ρ' := Rho.le_trans hle k1
    have hfin := wpIn_pend (base := base) (ρ := ρ') (N := N) (ro := none) (n := 0) (P := P) (a := { a with defers := [{ target := .collected w.heap.size, args := #[] }] ++ a.defers }) ⟨hw4, fun m => (by rw [evTmp_push]; exact (hr.tmps m).mono hkl), (by
      rw [off_push]
      exact .mark (k1 _ _ (hle2 _ _ (Rho.add_same ρ S.next (w.heap.size, 0)))) (hr.defers.mono hkl)), hr.size⟩ hk (hq.step hkl hkeep)
    rw [a2] at hfin
    exact hfin)
  have he := run_enterLoop (P := P) fn a.tmps ps asg b w
  generalize (w.alloc (.deferred (some []))).alloc (.loop { state := .ready, pending := none, fn, tmps := a.tmps, params := ps, assign := asg, body := b, defers := w.heap.size }) = W2 at he hcalls
  have hres : (resolve a.eval (rangeCall f (w.heap.size + 1)) 0).run P W2 = .ok { target := .fn (.func g) ca.toArray, args := fi.toArray ++ #[.func (.yield (w.heap.size + 1)) #[] #[]] } W2 := by
    have e1 : a.eval (.const (.func (.yield (w.heap.size + 1)) #[] #[])) = .func (.yield (w.heap.size + 1)) #[] #[] := rfl
    simp [resolve, hef, Deferred.ofValue, e1]
  have hinv : (invoke (.fn (.func g) ca.toArray) (fi.toArray ++ #[.func (.yield (w.heap.size + 1)) #[] #[]])).run P W2 = .ok (.enter g (fi ++ (.func (.yield (w.heap.size + 1)) #[] #[] :: ca)).toArray) W2 := by
    have := names_call (args := (fi ++ (.func (.yield (w.heap.size + 1)) #[] #[] :: ca)).toArray) hfn (hN g fnn hfn) hbody W2
    rw [← this]
    simp only [invoke]
    congr 1
    apply congrArg (callFunc g)
    apply Array.toList_inj.1
    simp
  exact ⟨w.heap.size + 1, [{ target := .collected w.heap.size, args := #[] }], W2, _, W2, g, _, W2, he, hres, fun _ _ => trivial, hinv, fun h => (by cases h), hcalls⟩

theorem code_wp {cl : Cl} {ag : Ag} {m n : Nat} {ro : Option Nat} {rd : Bool} (hm : P.follows .mixedOrders = true) (hN : NamesOk P) (hcl : ClOK Lg P cl) (hag : AgOK Lg P ag m) (hro : ro = none ∨ rd = true) (hn : n ≤ N) :
    ∀ (b : Code) (ρ : Rho) (S : AS) (w : World) (t : T) (a : Act) (k : KX) (Q : Exit → Act → World → Prop), RelA base ρ S w t a N → runA (comp P rd n b) cl ag t S k = some z → Outs base ρ S k z N Q → b.wpIn (FW ro) 0 P Q a w
  | .skip, ρ, S, w, t, a, k, Q, hr, h, hq => wpIn_skip (hq .normal t S ρ a w h ρ.le_refl (.refl ρ S) hr)
  | .label l, ρ, S, w, t, a, k, Q, hr, h, hq => wpIn_label (hq .normal t S ρ a w h ρ.le_refl (.refl ρ S) hr)
  | .exit i, ρ, S, w, t, a, k, Q, hr, h, hq => wpIn_exit (hq (.exit i) t S ρ a w h ρ.le_refl (.refl ρ S) hr)
  | .ret, ρ, S, w, t, a, k, Q, hr, h, hq => wpIn_ret (hq .ret t S ρ a w h ρ.le_refl (.refl ρ S) hr)
  | .region id ops d, ρ, S, w, t, a, k, Q, hr, h, hq => by
    have h : runA (bif dstsOk n ops then (bif rd && !noDefer ops then .bad else bif d then .region (compDrawn P ops) else .region (compL (ops.toList.map (compOper P ops)))) else .bad) cl ag t S k = some z := h
    cases hd : dstsOk n ops with
    | false => rw [hd] at h; cases h
    | true =>
      rw [hd] at h
      have hnd : ro = none ∨ noDefer ops = true := by
        rcases hro with h1 | h1
        · exact .inl h1
        · subst h1
          cases hx : noDefer ops with
          | true => exact .inr rfl
          | false => rw [hx] at h; cases h
      have h : runA (bif d then .region (compDrawn P ops) else .region (compL (ops.toList.map (compOper P ops)))) cl ag t S k = some z := by
        cases hx : (rd && !noDefer ops) with
        | true => rw [hx] at h; cases h
        | false => rw [hx] at h; exact h
      have hq' : Ends base ρ S (k .normal) z N (Q .normal) := fun t' S' ρ' a' w' h1 h2 h3 h4 => hq .normal t' S' ρ' a' w' h1 h2 h3 h4
      cases d with
      | true => exact drawn_region hm hN hcl hd hn hr h hq'
      | false =>
        refine wpIn_region ?_
        have hd' : dstsOk N ops = true := by
          refine List.all_eq_true.2 fun o ho => ?_
          have := List.all_eq_true.1 hd o ho
          cases hdst : o.dst with
          | none => rfl
          | some d =>
            rw [hdst] at this
            have hlt : d < n := ble_true (show Nat.ble (d + 1) n = true from this)
            exact Nat.ble_eq_true_of_le (Nat.lt_of_lt_of_le hlt hn)
        have := plain_region (base := base) (z := z) (Q := Q) hN hcl hd' hnd ops.toList 0 ρ S w t a (by simp) hr h hq'
        rw [Array.length_toList] at this
        rw [List.range_eq_range']
        exact this
  | .seq x y, ρ, S, w, t, a, k, Q, hr, h, hq => by
    refine wpIn_seq (code_wp hm hN hcl hag hro hn x ρ S w t a _ _ hr (show runA (comp P rd n x) cl ag t S (fun x t S => AX.rec (runA (comp P rd n y) cl ag t S k) (k .ret t S) (fun i => k (.exit i) t S) x) = some z from h) fun e t' S' ρ' a' w' h1 h2 h3 h4 => ?_)
    cases e with
    | normal => exact code_wp hm hN hcl hag hro hn y ρ' S' w' t' a' k Q h4 h1 (hq.step h2 h3)
    | ret => exact hq .ret t' S' ρ' a' w' h1 h2 h3 h4
    | exit i => exact hq (.exit i) t' S' ρ' a' w' h1 h2 h3 h4
  | .cond c x y, ρ, S, w, t, a, k, Q, hr, h, hq => by
    cases hc : ofOperand c with
    | none =>
      have h : runA (match ofOperand c with | some c => .cond c (comp P rd n x) (comp P rd n y) | none => .bad) cl ag t S k = some z := h
      rw [hc] at h
      cases h
    | some c' =>
      have h : runA (match ofOperand c with | some c => .cond c (comp P rd n x) (comp P rd n y) | none => .bad) cl ag t S k = some z := h
      rw [hc] at h
      obtain ⟨b, hb, h⟩ := onBool_some (show onBool (ev c' t) (fun b => ifB b (runA (comp P rd n x) cl ag t S k) (runA (comp P rd n y) cl ag t S k)) = some z from h)
      have hd := hr.tmps.ev c c' hc
      rw [hb] at hd
      generalize hv : a.eval c = v at hd
      cases hd
      cases b with
      | true => exact wpIn_cond_true hv (code_wp hm hN hcl hag hro hn x ρ S w t a k Q hr h hq)
      | false => exact wpIn_cond_false hv (code_wp hm hN hcl hag hro hn y ρ S w t a k Q hr h hq)
  | .block id b, ρ, S, w, t, a, k, Q, hr, h, hq => by
    refine wpIn_block (code_wp hm hN hcl hag hro hn b ρ S w t a _ _ hr (show runA (comp P rd n b) cl ag t S (fun x t S => AX.rec (k .normal t S) (k .ret t S) (fun i => ifB (Nat.beq i id) (k .normal t S) (k (.exit i) t S)) x) = some z from h) fun e t' S' ρ' a' w' h1 h2 h3 h4 => ?_)
    cases e with
    | normal => exact hq .normal t' S' ρ' a' w' h1 h2 h3 h4
    | ret => exact hq .ret t' S' ρ' a' w' h1 h2 h3 h4
    | exit i =>
      show if i = id then Q .normal a' w' else Q (.exit i) a' w'
      rcases ifB_or (show ifB (Nat.beq i id) (k .normal t' S') (k (.exit i) t' S') = some z from h1) with ⟨hb, h1⟩ | ⟨hb, h1⟩
      · rw [if_pos (beq_true hb)]
        exact hq .normal t' S' ρ' a' w' h1 h2 h3 h4
      · rw [if_neg (beq_false hb)]
        exact hq (.exit i) t' S' ρ' a' w' h1 h2 h3 h4
  | .scope b, ρ, S, w, t, a, k, Q, hr, h, hq => by
    refine wpIn_scope (code_wp hm hN hcl hag hro hn b ρ S w t a k _ hr h fun e t' S' ρ' a' w' h1 h2 h3 h4 => ?_)
    cases e with
    | normal => exact hq .normal t' S' ρ' a' w' h1 h2 h3 h4
    | ret => exact hq .ret t' S' ρ' a' w' h1 h2 h3 h4
    | exit i => exact hq (.exit i) t' S' ρ' a' w' h1 h2 h3 h4
  | .loop b, ρ, S, w, t, a, k, Q, hr, h, hq => wpIn_loop_rounds (m + 1) (loop_round hro hag hn (code_wp hm hN hcl hag hro hn b) hr h hq)
  | .goto l, ρ, S, w, t, a, k, Q, hr, h, hq => by cases h
  | .rangeFunc f ps x b, ρ, S, w, t, a, k, Q, hr, h, hq => by
    have h : runA (bif rd then .bad else bif tmpsOk n ps then (match ofOperand f with | some f => .range f (ps.toList.map pathOf) x b n | none => .bad) else .bad) cl ag t S k = some z := h
    cases hrd : rd with
    | true => rw [hrd] at h; cases h
    | false =>
      rw [hrd] at h
      have hro' : ro = none := hro.resolve_right (by rw [hrd]; intro h; cases h)
      subst hro'
      cases hps : tmpsOk n ps with
      | false => rw [hps] at h; cases h
      | true =>
        rw [hps] at h
        cases hf : ofOperand f with
        | none => rw [hf] at h; cases h
        | some f' =>
          rw [hf] at h
          exact range_wp hN hcl hn hps hf hr h hq
  | .refuse r, ρ, S, w, t, a, k, Q, hr, h, hq => by cases h
end Go.Proofs.YtpllompnfhpfmaaGreatDoor.Exe
namespace Go.Proofs.YtpllompnfhpfmaaGreatDoor.Exe
open Go
variable {Lg : Laid} {base : Base Lg} {w : World} {P : Program} {ρ : Rho} {S : AS} {t : T} {c : K} {z : AV × Option AS} {a : Act}

/-! ### Results -/
theorem run_loadVar_of {ty : TypeId} {p : List D4} {n m : Nat} {v : AV × Option AS} (hm : p = pathOf m) (hk : known P ty = true) (hn : n = sizeT P ty) (ht : TRel ρ t a) (hw : WRel base ρ S w) (h : kLoad (aggT P ty) n (.tmp p) t S (fun v S => some (v, some S)) = some v) :
    ∃ ad u, a.tmps.getD m undef = .pointer (some ad) ∧ (loadVar ty ad).run P w = .ok u w ∧ Den ρ v.1 u := by
  subst hm; subst hn
  obtain ⟨d, hd, hsz⟩ := known_some hk
  obtain ⟨b, off, hv, h⟩ := onPtr_some h
  obtain ⟨el, es, cs, hb, h⟩ := onCells_some h
  obtain ⟨v', hval, h⟩ := retO_some h
  cases h
  have hdx := ht m
  have hv : evTmp (pathOf m) t = .ptr b off := hv
  rw [hv] at hdx
  generalize hex : a.tmps.getD m undef = ex at hdx
  cases hdx with
  | @ptr _ _ r x' hρ =>
    obtain ⟨us, tail, fz, hh, hc, _, _⟩ := hw.cells hb hρ
    rcases valueK_some hc hval with ⟨ha, hlen, hden⟩ | ⟨ha, u, hu, hden, _⟩
    · obtain ⟨d', hd', hrow⟩ := aggT_true ha
      have hr := rangeAt_of hh off (sizeT P ty)
      have e1 : ((us ++ tail).drop off).take (sizeT P ty) = (us.drop off).take (sizeT P ty) := by
        rw [List.drop_append_of_le_length (by omega), List.take_append_of_le_length (by rw [List.length_drop]; omega)]
      rw [e1] at hr
      have hl : ((us.drop off).take (sizeT P ty)).length = sizeT P ty := by rw [List.length_take, List.length_drop]; omega
      exact ⟨_, _, rfl, run_loadVar_mid (P := P) w r off ty _ d' hr hd' hrow (by rw [hl]; exact hsz), hden⟩
    · have hcell : w.cell? ⟨r, off, none⟩ = some u := cell?_of hh (by rw [List.getElem?_append_left (by rcases Nat.lt_or_ge off us.length with h' | h'; exact h'; rw [List.getElem?_eq_none h'] at hu; cases hu)]; exact hu)
      exact ⟨_, u, rfl, by simp [loadVar, run_isAgg_false hd ha, load, Sem.run, hcell], hden⟩

theorem resK_cons (t : T) (S : AS) (p : List D4 × Option (Bool × Nat)) (l : List (List D4 × Option (Bool × Nat))) : resK t S (p :: l) = Option.rec (onSome (resK t S l) fun r => some (evTmp p.1 t :: r)) (fun q => onSome (kLoad q.1 q.2 (.tmp p.1) t S fun v S => some (v, some S)) fun v => onSome (resK t S l) fun r => some (v.1 :: r)) p.2 := rfl

def resOne (tmps : Array Value) : ResultVar → Sem Value
  | .tmp t => pure (tmps.getD t undef)
  | .cell ad t => do loadVar t (← asAddr (tmps.getD ad undef))
theorem results_list (ht : TRel ρ t a) (hw : WRel base ρ S w) : ∀ (l : List ResultVar) (vs : List AV), (l.all (fun r => match r with | .tmp _ => true | .cell _ t => known P t)) = true → resK t S (l.map fun | .tmp t => (pathOf t, none) | .cell a t => (pathOf a, some (aggT P t, sizeT P t))) = some vs →
    ∃ us, DenL ρ vs us ∧ (l.mapM (resOne a.tmps)).run P w = .ok us w
  | [], vs, _, h => by
    cases h
    exact ⟨[], .nil, rfl⟩
  | .tmp n :: l, vs, hk, h => by
    rw [List.map_cons, resK_cons] at h
    obtain ⟨r, hr, h⟩ := onSome_some (show onSome (resK t S _) (fun r => some (evTmp (pathOf n) t :: r)) = some vs from h)
    cases h
    obtain ⟨us, hd, hrun⟩ := results_list ht hw l r (by simpa using hk) hr
    refine ⟨a.tmps.getD n undef :: us, .cons (ht n) hd, ?_⟩
    rw [List.mapM_cons]
    simp [resOne, hrun]
  | .cell ad ty :: l, vs, hk, h => by
    rw [List.map_cons, resK_cons] at h
    obtain ⟨v, hv, h⟩ := onSome_some (show onSome (kLoad (aggT P ty) (sizeT P ty) (.tmp (pathOf ad)) t S fun v S => some (v, some S)) (fun v => onSome (resK t S _) fun r => some (v.1 :: r)) = some vs from h)
    obtain ⟨r, hr, h⟩ := onSome_some h
    cases h
    rw [List.all_cons, Bool.and_eq_true] at hk
    obtain ⟨us, hd, hrun⟩ := results_list ht hw l r hk.2 hr
    obtain ⟨adr, u, h1, h2, h3⟩ := run_loadVar_of (n := sizeT P ty) rfl hk.1 rfl ht hw hv
    refine ⟨u :: us, .cons h3 hd, ?_⟩
    rw [List.mapM_cons]
    simp [resOne, hrun, h1, h2, asAddr]

theorem oneK_den {vs : List AV} {us : List Value} (h : DenL ρ vs us) : Den ρ (oneK vs) (if h : us.toArray.size = 1 then us.toArray[0] else .tuple us.toArray) := by
  cases h with
  | nil => exact .tup .nil
  | @cons v u vs us hv h =>
    cases h with
    | nil => exact hv
    | @cons v2 u2 vs us hv2 h =>
      have : ¬ (u :: u2 :: us).toArray.size = 1 := by simp
      rw [dif_neg this]
      exact .tup (.cons hv (.cons hv2 h))

theorem results_run {fn : Func} (ht : TRel ρ t a) (hw : WRel base ρ S w) {vs : List AV} (hk : (fn.results.toList.all (fun r => match r with | .tmp _ => true | .cell _ t => known P t)) = true) (h : resK t S (fn.results.toList.map fun | .tmp t => (pathOf t, none) | .cell a t => (pathOf a, some (aggT P t, sizeT P t))) = some vs) :
    ∃ u, Den ρ (oneK vs) u ∧ (results fn a.tmps).run P w = .ok u w := by
  obtain ⟨us, hd, hrun⟩ := results_list ht hw _ _ hk h
  refine ⟨_, oneK_den hd, ?_⟩
  have e1 : results fn a.tmps = (do let vs ← fn.results.mapM (resOne a.tmps); pure (if h : vs.size = 1 then vs[0] else .tuple vs)) := by
    unfold results
    rfl
  rw [e1, Array.mapM_eq_mapM_toList]
  simp [hrun]

/-! ### Calls -/
theorem args_rel : ∀ (vs : List AV) (us : List Value) (n : Nat) (t : T) (f : Nat → Value), DenL ρ vs us → (∀ m, Den ρ (evTmp (pathOf m) t) (f m)) → ∀ m, Den ρ (evTmp (pathOf m) (argsK vs n t)) (if n ≤ m ∧ m < n + us.length then us.getD (m - n) undef else f m)
  | [], us, n, t, f, h, hf, m => by
    cases h
    rw [if_neg (by simp)]
    exact hf m
  | v :: vs, us, n, t, f, h, hf, m => by
    cases h with
    | @cons _ u _ us hv h =>
      show Den ρ (evTmp (pathOf m) (argsK vs (n + 1) (T.setP v (pathOf n) t))) _
      have ih := args_rel vs us (n + 1) (T.setP v (pathOf n) t) (fun m => if m = n then u else f m) h (fun m => by
        by_cases hm : m = n
        · subst hm; rw [evTmp_put, if_pos rfl]; exact hv
        · rw [evTmp_put_ne hm, if_neg hm]; exact hf m) m
      by_cases h1 : n + 1 ≤ m ∧ m < n + 1 + us.length
      · rw [if_pos h1] at ih
        rw [if_pos (by simp; omega)]
        obtain ⟨j, hj⟩ : ∃ j, m - n = j + 1 := ⟨m - n - 1, by omega⟩
        rw [hj]
        rw [show m - (n + 1) = j by omega] at ih
        exact ih
      · rw [if_neg h1] at ih
        by_cases hm : m = n
        · subst hm
          rw [if_pos rfl] at ih
          rw [if_pos (by simp), Nat.sub_self]
          exact ih
        · rw [if_neg hm] at ih
          rw [if_neg (by simp; omega)]
          exact ih
def FTOk (P : Program) (FT : PT AF) : Prop := ∀ g af, FT.getK g = some af → ∃ fn, P.funcs[g]? = some fn ∧ compFn P fn = some af

/-! ### The calls that were put off -/
theorem WRel.dfr (h : WRel base ρ S w) {b r x : Nat} (hb : S.heap.getK b = some (.dfr true)) (e : ρ b = some (r, x)) : w.heap[r]? = some (.deferred (some [])) := by
  obtain ⟨u, hu, ho⟩ := h.obj b _ r x hb e
  cases ho with
  | dfr => exact hu
theorem offK_cons (cl : Cl) (v : AV) (l : List AV) (S : AS) (k : AS → R) : offK cl (v :: l) S k = ifB (Nat.beq (nilNo v) 13) (onMap v fun b => onDfr S b fun d => ifB d (offK cl l (overK (putK S b (.dfr false)) b) k) none) (onFn v fun g as _ => cl (.dfn g) as S fun _ S => offK cl l S k) := rfl
theorem off_ok {cl : Cl} {fn : Func} {tmps : Array Value} {R' : Ending → World → Prop} (hN : NamesOk P) (hcl : ClOK Lg P cl) : ∀ (l : List AV) (ds : List Deferred) (ρ : Rho) (S : AS) (w : World) (k : AS → R), DfRel ρ l ds → WRel base ρ S w → offK cl l S k = some z →
    (∀ S' ρ' w', k S' = some z → ρ.le ρ' → Keep ρ ρ' S S' → WRel base ρ' S' w' → ∃ v, (results fn tmps).run P w' = .ok v w' ∧ R' (.returned v) w') → LeavesInM (FW none) 0 P fn tmps R' ds .returning w
  | [], _, ρ, S, w, k, .nil, hw, h, hR => hR S ρ w h ρ.le_refl (.refl ρ S) hw
  | _ :: l, _, ρ, S, w, k, .mark (b := b) (r := r) e hr, hw, h, hR => by
    rw [offK_cons] at h
    obtain ⟨b', hb', h⟩ := onMap_some (show onMap (.map b) (fun b => onDfr S b fun d => ifB d (offK cl l (overK (putK S b (.dfr false)) b) k) none) = some z from h)
    cases hb'
    obtain ⟨d, hb, h⟩ := onDfr_some h
    obtain ⟨hd, h⟩ := ifB_some h
    subst hd
    have hh := hw.dfr hb e
    refine ⟨(by intro h; cases h), .inl ⟨r, w.putObj r (.deferred none), rfl, ?_, off_ok hN hcl l _ ρ _ _ k hr ((hw.put ⟨_, hb⟩ e .gone).del _) h fun S' ρ' w' h1 h2 h3 h4 => hR S' ρ' w' h1 h2 (((Keep.put e).trans (Keep.del e)).trans h3) h4⟩⟩
    simp [Instr.takeDeferred, getObj, setObj, Sem.run, hh, World.putObj]
  | _ :: l, _, ρ, S, w, k, .fn (g := g) (as := as) (us := us) (dargs := dargs) (cap := cap) ha hc hr, hw, h, hR => by
    rw [offK_cons] at h
    have h : cl (.dfn g) as S (fun _ S => offK cl l S k) = some z := h
    obtain ⟨hcalls, fnn, hfn, hb⟩ := hcl base ρ S w (.dfn g) as us _ z (fun
      | .returned _, w' => LeavesInM (FW none) 0 P fn tmps R' _ .returning w'
      | .panicked chain, w' => LeavesInM (FW none) 0 P fn tmps R' _ (raised .returning chain) w'
      | .outgrown, w' => R' .outgrown w') hw ha h (fun v S' ρ' w' u h1 h2 h3 h4 _ => off_ok hN hcl l _ ρ' S' w' k (hr.mono h2) h4 h1 fun S'' ρ'' w'' g1 g2 g3 g4 => hR S'' ρ'' w'' g1 (Rho.le_trans h2 g2) (h3.trans g3) g4)
    have hinv : (invoke (.fn (.func g) cap) dargs).run P w = .ok (.enter g us.toArray) w := by
      have := names_call (args := us.toArray) hfn (hN g fnn hfn) hb w
      rw [← this, ← hc]
      rfl
    refine ⟨(by intro h; cases h), .inr ⟨fun h => (by cases h), .func g, cap, g, us.toArray, rfl, hinv, fun _ _ => trivial, CallsDIn.mono (F := FW none) (n := 0) (hcalls .returning) fun e u' w' h => ?_⟩⟩
    obtain ⟨rfl, h⟩ := h
    cases e <;> exact h

/-! ### Rounds -/
theorem psK_cons (p : List D4) (ps : List (List D4)) (v : AV) (as : List AV) (t : T) (k : T → R) : psK (p :: ps) (v :: as) t k = psK ps as (t.setP v p) k := setTC_eq p v t _
theorem psK_some : ∀ (ps : List Tmp) (as : List AV) (us : List Value) (t : T) (tm : Array Value) (k : T → R), DenL ρ as us → (∀ p ∈ ps, p < tm.size) → (∀ m, Den ρ (evTmp (pathOf m) t) (tm.getD m undef)) → psK (ps.map pathOf) as t k = some z →
    us.length = ps.length ∧ ∃ t', k t' = some z ∧ t'.off = t.off ∧ (∀ m, Den ρ (evTmp (pathOf m) t') (((ps.zip us).foldl (fun tm p => tm.setIfInBounds p.1 p.2) tm).getD m undef)) ∧ ((ps.zip us).foldl (fun tm p => tm.setIfInBounds p.1 p.2) tm).size = tm.size
  | [], [], _, t, tm, k, .nil, _, ht, h => ⟨rfl, t, h, rfl, ht, rfl⟩
  | [], _ :: _, _, t, tm, k, .cons _ _, _, ht, h => by cases h
  | p :: ps, [], _, t, tm, k, .nil, _, ht, h => by cases h
  | p :: ps, v :: as, u :: us, t, tm, k, .cons hv hl, hp, ht, h => by
    rw [List.map_cons, psK_cons] at h
    have hlt : p < tm.size := hp p List.mem_cons_self
    obtain ⟨h1, t', h2, h3, h4, h5⟩ := psK_some ps as us (t.setP v (pathOf p)) (tm.setIfInBounds p u) k hl (fun q hq => by simpa using hp q (List.mem_cons_of_mem _ hq)) (fun m => by
      by_cases hm : m = p
      · subst hm
        rw [evTmp_put]
        simpa [Array.getD, hlt] using hv
      · rw [evTmp_put_ne hm, Array.getD_eq_getD_getElem?, Array.getElem?_setIfInBounds_ne (Ne.symm hm), ← Array.getD_eq_getD_getElem?]
        exact ht m) h
    refine ⟨by simpa using h1, t', h2, by rw [h3, off_setP], ?_, ?_⟩
    · exact h4
    · rw [List.zip_cons_cons, List.foldl_cons, h5]; simp

theorem run_yield {w : World} {r : Nat} {l : Loop} {us : List Value} (h : w.heap[r]? = some (.loop l)) (hs : us.length = l.params.toList.length) :
    (Instr.yield r us.toArray).run P w = .ok (.round r l.fn ((l.params.toList.zip us).foldl (fun tm p => tm.setIfInBounds p.1 p.2) l.tmps) l.assign l.body) w := by
  have h1 : ¬ (us.toArray.size ≠ l.params.size) := by simpa using hs
  have h2 : (l.params.zip us.toArray).foldl (fun tm (p : Tmp × Value) => tm.setIfInBounds p.1 p.2) l.tmps = (l.params.toList.zip us).foldl (fun tm p => tm.setIfInBounds p.1 p.2) l.tmps := by
    rw [← Array.foldl_toList]
    simp
  simp only [Instr.yield, Sem.run_bind, run_getLoop h, Result.andThen_ok]
  rw [if_neg h1]
  simp only [Sem.run_pure]
  rw [← h2]
theorem run_beginRound {w : World} {r : Nat} {l : Loop} (h : w.heap[r]? = some (.loop l)) (hs : stNo l.state = 0) : (Instr.beginRound r).run P w = .ok () (w.putObj r (.loop { l with state := .busy })) := by
  obtain ⟨st, pe, fn, tmps, params, assign, body, defers⟩ := l
  cases st with
  | ready => simp [Instr.beginRound, run_getLoop h, run_setLoop _ h]
  | _ => cases hs
theorem run_endRound {w : World} {r : Nat} {l : Loop} (h : w.heap[r]? = some (.loop l)) (j : Option Code) : (Instr.endRound r j).run P w = .ok (.bool j.isNone) (w.putObj r (.loop { l with state := if j.isNone then .ready else .done, pending := j })) := by
  simp [Instr.endRound, run_getLoop h, run_setLoop _ h]

/-! ### Calls whose answers are known ahead -/
noncomputable def pureV (v : AV) : Bool :=
  AV.rec (motive_1 := fun _ => Bool) (motive_2 := fun _ => Bool) (fun _ => true) (fun _ _ => true) (fun _ => true) true (fun _ _ => false) true (fun _ _ _ _ _ => false) true (fun _ => false) true (fun _ _ _ i1 i2 => ifB i1 i2 false) true (fun _ _ i => i) (fun _ i => i) (fun _ _ => true) (fun _ i => i) false (fun _ => false) false (fun _ _ => false) (fun _ => false) true (fun _ _ i1 i2 => ifB i1 i2 false) v
noncomputable def pureL (l : List AV) : Bool := pureV (.tup l)
theorem pureL_cons {v : AV} {l : List AV} (h : pureL (v :: l) = true) : pureV v = true ∧ pureL l = true := ifB_bool (show ifB (pureV v) (pureL l) false = true from h)
mutual
theorem Den.pure {ρ σ : Rho} {v : AV} {u : Value} (h : pureV v = true) (d : Den ρ v u) : Den σ v u := by
  cases d with
  | bool b => exact .bool b
  | int k n => exact .int k n
  | str s => exact .str s
  | pnil => exact .pnil
  | ptr e => cases h
  | snil => exact .snil
  | sl e => cases h
  | sl0 e => cases h
  | mnil => exact .mnil
  | map e => cases h
  | fnil => exact .fnil
  | @fn f a c a' c' x y =>
    obtain ⟨h1, h2⟩ := ifB_bool (show ifB (pureL a) (pureL c) false = true from h)
    exact .fn (x.pure h1) (y.pure h2)
  | inil => exact .inil
  | ifc a => exact .ifc (a.pure h)
  | agg a => exact .agg (a.pure h)
  | tup a => exact .tup (a.pure h)
  | junk => cases h
  | yl e => cases h
  | raw r o => cases h
  | lit e e' => cases h
  | any e e' => cases h
theorem DenL.pure {ρ σ : Rho} {v : List AV} {u : List Value} (h : pureL v = true) (d : DenL ρ v u) : DenL σ v u := by
  cases d with
  | nil => exact .nil
  | cons a b => exact .cons (a.pure (pureL_cons h).1) (b.pure (pureL_cons h).2)
theorem Cells.pure {ρ σ : Rho} {v : List AV} {u : List Value} (h : pureL v = true) (d : Cells ρ v u) : Cells σ v u := by
  cases d with
  | nil => exact .nil
  | bytes a => exact .bytes (a.pure (pureL_cons h).2)
  | one o a b => exact .one o (a.pure (pureL_cons h).1) (b.pure (pureL_cons h).2)
end
/-- A world that has grown by what nobody of ours knows of. -/
structure Grown (w w' : World) : Prop where
  low : ∀ r, r < w.heap.size → w'.heap[r]? = w.heap[r]?
  size : w.heap.size ≤ w'.heap.size
  os : w'.os = w.os
  output : w'.output = w.output
  tape : w'.tape = w.tape
theorem WRel.grown (h : WRel base ρ S w) {w' : World} (g : Grown w w') : WRel base ρ S w' :=
  { low := fun r hr ho => by rw [g.low r (Nat.lt_of_lt_of_le hr h.size)]; exact h.low r hr ho, size := Nat.le_trans h.size g.size, os := g.os.trans h.os, output := g.output.trans h.output, tape := g.tape.trans h.tape, dom := h.dom, rng := fun b r x e => ⟨(h.rng b r x e).1, Nat.lt_of_lt_of_le (h.rng b r x e).2 g.size⟩, inj := h.inj, obj := fun b o r x hb e => by
      obtain ⟨u, hu, ho⟩ := h.obj b o r x hb e
      exact ⟨u, by rw [g.low r (h.rng b r x e).2]; exact hu, ho⟩ }
def MemoOK (Lg : Laid) (P : Program) (tab : Memo) : Prop := ∀ g xs v, (g, xs, v) ∈ tab → pureL xs = true ∧ ∀ us, DenL (fun _ => none) xs us → ∀ w, Lg.In w →
  (CallsIn (FW none) 0 P g us.toArray w fun e w' => ∃ u, e = .returned u ∧ Den (fun _ => none) v u ∧ Grown w w') ∧ ∃ fn, P.funcs[g]? = some fn ∧ fn.body.isNone = false
theorem hitK_some {tab : Memo} {g : FuncId} {as : List AV} {k : AV → R} {miss : R} (h : hitK tab g as k miss = some z) : miss = some z ∨ ∃ v, (g, as, v) ∈ tab ∧ k v = some z := by
  induction tab with
  | nil => exact .inl h
  | cons e tab ih =>
    obtain ⟨f, xs, v⟩ := e
    have h : ifB (Nat.beq f g) (ifB (sameV (.tup xs) (.tup as)) (k v) (hitK tab g as k miss)) (hitK tab g as k miss) = some z := h
    rcases ifB_or h with ⟨h1, h⟩ | ⟨_, h⟩
    · rcases ifB_or h with ⟨h2, h3⟩ | ⟨_, h⟩
      · have e1 := beq_true h1
        have e2 : xs = as := by
          have := sameV_eq _ _ h2
          injection this
        rw [e1, e2]
        exact .inr ⟨v, List.mem_cons_self, h3⟩
      · exact (ih h).imp id fun ⟨v, h1, h2⟩ => ⟨v, List.mem_cons_of_mem _ h1, h2⟩
    · exact (ih h).imp id fun ⟨v, h1, h2⟩ => ⟨v, List.mem_cons_of_mem _ h1, h2⟩

/-- Functions without a body: what ours does they do. -/
def ExtOK (Lg : Laid) (P : Program) (l : List (Nat × XF)) : Prop := ∀ g f, (g, f) ∈ l → ∀ (base : Base Lg) (ρ : Rho) (S : AS) (w : World) (xs : List AV) (us : List Value) (k : K) (z : AV × Option AS), WRel base ρ S w → DenL ρ xs us → f xs S k = some z →
  ∃ v S' ρ' w' u, k v S' = some z ∧ ρ.le ρ' ∧ Keep ρ ρ' S S' ∧ WRel base ρ' S' w' ∧ Den ρ' v u ∧ (callFunc g us.toArray).run P w = .ok (.value u) w'
theorem ext_nil : ExtOK Lg P [] := fun _ _ h => by cases h
/-- Functions with a body whose answers are known. -/
def RfOK (Lg : Laid) (P : Program) (g : Nat) (f : RF) : Prop := ∀ (base : Base Lg) (ρ : Rho) (S : AS) (w : World) (xs : List AV) (us : List Value) (k : K) (miss : R) (z : AV × Option AS) (R : Ending → World → Prop), WRel base ρ S w → DenL ρ xs us → f xs S k miss = some z →
  (∀ v S' ρ' w' u, k v S' = some z → ρ.le ρ' → Keep ρ ρ' S S' → WRel base ρ' S' w' → Den ρ' v u → R (.returned u) w') → miss = some z ∨ CEOK P ρ (.fn g) us w R
def RecsOK (Lg : Laid) (P : Program) (l : List (Nat × RF)) : Prop := ∀ g f, (g, f) ∈ l → RfOK Lg P g f
theorem recs_nil : RecsOK Lg P [] := fun _ _ h => by cases h
theorem recs_cons {g : Nat} {f : RF} {l : List (Nat × RF)} (h : RfOK Lg P g f) (hl : RecsOK Lg P l) : RecsOK Lg P ((g, f) :: l) := fun g' f' hm => by
  rcases List.mem_cons.1 hm with hm | hm
  · cases hm; exact h
  · exact hl g' f' hm
theorem recK_some {l : List (Nat × RF)} (hl : RecsOK Lg P l) {base : Base Lg} {g : Nat} {ρ : Rho} {S : AS} {w : World} {xs : List AV} {us : List Value} {k : K} {miss : R} {R : Ending → World → Prop} (hw : WRel base ρ S w) (hx : DenL ρ xs us) (h : recK l g xs S k miss = some z)
    (hR : ∀ v S' ρ' w' u, k v S' = some z → ρ.le ρ' → Keep ρ ρ' S S' → WRel base ρ' S' w' → Den ρ' v u → R (.returned u) w') : miss = some z ∨ CEOK P ρ (.fn g) us w R := by
  induction l with
  | nil => exact .inl h
  | cons e l ih =>
    have ih := ih (fun g f hm => hl g f (List.mem_cons_of_mem _ hm))
    rcases ifB_or (show ifB (Nat.beq e.1 g) (e.2 xs S k (recK l g xs S k miss)) (recK l g xs S k miss) = some z from h) with ⟨h1, h2⟩ | ⟨_, h2⟩
    · have h1 : e.1 = g := beq_true h1
      have he : RfOK Lg P g e.2 := by rw [← h1]; exact hl e.1 e.2 List.mem_cons_self
      rcases he base ρ S w xs us k _ z R hw hx h2 hR with h3 | h3
      · exact ih h3
      · exact .inr h3
    · exact ih h2
/-- What a run is given is as it should be. -/
structure OptOK (Lg : Laid) (P : Program) (tab : Opt) : Prop where
  all : tab.first = false
  ext : ExtOK Lg P tab.ext
  recs : RecsOK Lg P tab.recs
theorem extK_some {l : List (Nat × XF)} {g : Nat} {xs : List AV} {k : K} {miss : R} (h : extK l g xs S k miss = some z) : miss = some z ∨ ∃ f, (g, f) ∈ l ∧ f xs S k = some z := by
  induction l with
  | nil => exact .inl h
  | cons e l ih =>
    rcases ifB_or (show ifB (Nat.beq e.1 g) (e.2 xs S k) (extK l g xs S k miss) = some z from h) with ⟨h1, h2⟩ | ⟨_, h2⟩
    · refine .inr ⟨e.2, ?_, h2⟩
      rw [← beq_true h1]
      exact List.mem_cons_self
    · exact (ih h2).imp id fun ⟨f, a, b⟩ => ⟨f, List.mem_cons_of_mem _ a, b⟩
theorem call_ok {FT : PT AF} {tab : Opt} {ag : Ag} {cl : Cl} {m : Nat} (n1 : Nat) (hX : OptOK Lg P tab) (hM : MemoOK Lg P tab.memo) (hF : FTOk P FT) (hm : P.follows .mixedOrders = true) (hN : NamesOk P) (hcl : ClOK Lg P cl) (hag : AgOK Lg P ag m) : ClOK Lg P (callOf FT (comp P true) tab n1 ag cl) := by
  intro base ρ S w e args us k z R hw hl h hR
  have start : ∀ (n : Nat), TRel ρ (argsK args 0 T.nil) { tmps := us.toArray ++ Array.replicate (n - us.toArray.size) undef, defers := [] } := fun n => fun m => by
    have := args_rel args us 0 T.nil (fun _ => undef) hl (fun m => by rw [nil_get]; exact .junk _) m
    have e2 : (us.toArray ++ Array.replicate (n - us.toArray.size) undef).getD m undef = if 0 ≤ m ∧ m < 0 + us.length then us.getD (m - 0) undef else undef := by
      by_cases hn : m < us.length
      · rw [if_pos (by omega), Array.getD_eq_getD_getElem?, Array.getElem?_append_left (by simpa using hn)]
        simp
      · rw [if_neg (by omega), Array.getD_eq_getD_getElem?, Array.getElem?_append_right (by simpa using hn), Array.getElem?_replicate]
        split <;> rfl
    show Den ρ _ ((us.toArray ++ Array.replicate (n - us.toArray.size) undef).getD m undef)
    rw [e2]
    exact this
  have off0 : ∀ (vs : List AV) (n : Nat) (t : T), (argsK vs n t).off = t.off := fun vs => by
    induction vs with
    | nil => exact fun n t => rfl
    | cons v vs ih => exact fun n t => (ih (Nat.succ n) (t.setP v (pathOf n))).trans (off_setP v _ t)
  have hfnOf : ∀ g : FuncId, fnOf FT tab n1 ag cl g args S k = some z → CEOK P ρ (.fn g) us w R := by
    intro g h
    have h : hitK tab.memo g args (fun v => k v S) (recK tab.recs g args S k (mergeK tab.mg g (tab.guess n1 (.fn g) args S) (callFn FT ag cl g args S) S k)) = some z := h
    rcases hitK_some h with h | ⟨v, hmem, h⟩
    case inr =>
      obtain ⟨hp, hc⟩ := hM g args v hmem
      obtain ⟨hc, hfn⟩ := hc us (hl.pure hp) w hw.laid
      refine ⟨CallsIn.mono hc fun e w' he => ?_, hfn⟩
      obtain ⟨u, rfl, hu, hg⟩ := he
      exact hR v S ρ w' u h ρ.le_refl (.refl ρ S) (hw.grown hg) (hu.mono fun _ _ h => by cases h)
    have key : ∀ (k : K) (z : AV × Option AS), callFn FT ag cl g args S k = some z → (∀ v S' ρ' w' u, k v S' = some z → ρ.le ρ' → Keep ρ ρ' S S' → WRel base ρ' S' w' → Den ρ' v u → R (.returned u) w') → CEOK P ρ (.fn g) us w R := by
      intro k z h hR
      rw [callFn_eq] at h
      obtain ⟨af, haf, h⟩ := onSome_some h
      obtain ⟨fn, hfn, hc⟩ := hF g af haf
      obtain ⟨c, hb, hc⟩ := bind_some hc
      obtain ⟨hk, hc⟩ := bif_some hc
      cases hc
      refine ⟨callsIn_of_wp_marks hfn hb trivial ?_, fn, hfn, by rw [hb]; rfl⟩
      let a0 : Act := { tmps := us.toArray ++ Array.replicate (fn.ntmps - us.toArray.size) undef, defers := [] }
      have hsz : fn.ntmps ≤ a0.tmps.size := by show _ ≤ (us.toArray ++ Array.replicate _ _).size; simp; omega
      have hdf : DfRel ρ (argsK args 0 T.nil).off a0.defers := by rw [off0]; exact .nil
      refine code_wp (N := a0.tmps.size) (ro := none) (rd := false) hm hN hcl hag (.inl rfl) hsz c ρ S w _ a0 _ _ ⟨hw, start _, hdf, rfl⟩ h fun x t' S' ρ' a' w' h1 h2 h3 h4 => ?_
      have fin : offK cl t'.off S' (fun S => endK _ k t' S) = some z → LeavesInM (FW none) 0 P fn a'.tmps R a'.defers .returning w' := fun h => by
        refine off_ok hN hcl _ _ ρ' S' w' _ h4.defers h4.world h fun S'' ρ'' w'' g1 g2 g3 g4 => ?_
        obtain ⟨vs, hvs, g1⟩ := onSome_some g1
        obtain ⟨u, hu, hrun⟩ := results_run (h4.tmps.mono g2) g4 hk hvs
        exact ⟨u, hrun, hR _ _ _ _ _ g1 (Rho.le_trans h2 g2) (h3.trans g3) g4 hu⟩
      cases x with
      | normal => exact fin h1
      | ret => exact fin h1
      | exit i => cases h1
    rcases recK_some hX.recs hw hl h hR with h | h
    case inr => exact h
    rcases mergeK_some h with h | ⟨v2, S2, h1, h2⟩
    · exact key k z h hR
    · refine key _ _ h1 fun v S' ρ' w' u g1 g2 g3 g4 g5 => ?_
      obtain ⟨ms, hms⟩ := matchK_some g1
      obtain ⟨ρ2, r1, r2, r3, r4⟩ := match_ok hw hms g2 g3 g4 g5
      exact hR v2 S2 ρ2 w' u h2 r1 r2 r3 r4
  cases e with
  | fn g => exact hfnOf g h
  | xfn g =>
    rcases extK_some (show extK tab.ext g args S k (fnOf FT tab n1 ag cl g args S k) = some z from h) with h | ⟨f, hf, h⟩
    · exact .inl (hfnOf g h)
    · obtain ⟨v, S', ρ', w', u, h1, h2, h3, h4, h5, h6⟩ := hX.ext g f hf base ρ S w args us k z hw hl h
      exact .inr ⟨u, w', h6, hR v S' ρ' w' u h1 h2 h3 h4 h5⟩
  | nx =>
    have h : nxK tab.first args S k = some z := h
    rw [hX.all] at h
    obtain ⟨v, ha, h⟩ := on1_some h
    rw [ha] at hl
    cases hl with
    | cons d dn =>
      cases dn
      obtain ⟨v1, S', ρ', w', u, h1, h2, h3, h4, h5, h6⟩ := next_ok (P := P) d hw (show nextV v S k = some z from h)
      exact ⟨u, w', h6, hR v1 S' ρ' w' u h1 h2 h3 h4 h5⟩
  | dfn g =>
    have h : callDfn FT ag cl g args S k = some z := h
    rw [callDfn_eq] at h
    obtain ⟨af, haf, h⟩ := onSome_some h
    obtain ⟨fn, hfn, hc⟩ := hF g af haf
    obtain ⟨c, hb, hc⟩ := bind_some hc
    obtain ⟨hk, hc⟩ := bif_some hc
    cases hc
    refine ⟨fun u => callsDIn_of_wp hfn hb trivial ?_, fn, hfn, by rw [hb]; rfl⟩
    let a0 : Act := { tmps := us.toArray ++ Array.replicate (fn.ntmps - us.toArray.size) undef, defers := [] }
    have hsz : fn.ntmps ≤ a0.tmps.size := by show _ ≤ (us.toArray ++ Array.replicate _ _).size; simp; omega
    have hdf : DfRel ρ (argsK args 0 T.nil).off a0.defers := by rw [off0]; exact .nil
    refine code_wp (N := a0.tmps.size) (ro := none) (rd := false) hm hN hcl hag (.inl rfl) hsz c ρ S w _ a0 _ _ ⟨hw, start _, hdf, rfl⟩ h fun x t' S' ρ' a' w' h1 h2 h3 h4 => ?_
    have fin : goneK t'.off (endK _ k t' S') = some z → a'.defers = [] ∧ ∃ v, (results fn a'.tmps).run P w' = .ok v w' ∧ R (.returned v) w' := fun h => by
      have h4d := h4.defers
      cases ho : t'.off with
      | nil =>
        rw [ho] at h h4d
        obtain ⟨vs, hvs, g1⟩ := onSome_some (show endK _ k t' S' = some z from h)
        obtain ⟨u, hu, hrun⟩ := results_run h4.tmps h4.world hk hvs
        generalize hds : a'.defers = ds at h4d
        cases h4d
        exact ⟨rfl, u, hrun, hR _ _ _ _ _ g1 h2 h3 h4.world hu⟩
      | cons v vs => rw [ho] at h; cases h
    cases x with
    | normal => exact fin h1
    | ret => exact fin h1
    | exit i => cases h1
  | yl b =>
    have h : callYl (comp P true) ag cl b args S k = some z := h
    obtain ⟨st, pe, t, ps, asg, c, n, hb, h⟩ := onLoop_some h
    obtain ⟨hst, h⟩ := ifB_some h
    have hst := beq_true hst
    intro r x hρ
    obtain ⟨l, hh, a1, a2, a3, a4, a5, a6, a7, a8⟩ := hw.loop hb hρ
    subst a4
    obtain ⟨hlen, t', h, hoff, htm, hsize⟩ := psK_some (ρ := ρ) (z := z) l.params.toList args us t.clean l.tmps _ hl (fun p hp => Nat.lt_of_lt_of_le (a5 p (by simpa using hp)) a8) (fun m => by rw [evTmp_clean]; exact a3 m) h
    refine ⟨_, _, _, _, run_yield hh hlen, roundIn_of_wpIn trivial ?_⟩
    have hdf : DfRel ρ t'.off [] := by rw [hoff]; exact .nil
    rw [a6]
    refine code_wp (N := l.tmps.size) (ro := some r) (rd := true) hm hN hcl hag (.inr rfl) a8 asg ρ S w t' { tmps := (l.params.toList.zip us).foldl (fun tm p => tm.setIfInBounds p.1 p.2) l.tmps, defers := [] } _ _ ⟨hw, htm, hdf, hsize⟩ h fun y t1 S1 ρ1 a1' w1 g1 g2 g3 g4 => ?_
    cases y with
    | ret => cases g1
    | exit i => cases g1
    | normal =>
    obtain ⟨st1, pe1, t9, ps1, asg1, c1, n1, hb1, g1⟩ := onLoop_some (show onLoop S1 b _ = some z from g1)
    obtain ⟨hst1, g1⟩ := ifB_some g1
    have hst1 := beq_true hst1
    have hρ1 := g2 _ _ hρ
    obtain ⟨l1, hh1, e1, e2, e3, e4, e5, e6, e7, e8⟩ := g4.world.loop hb1 hρ1
    have hput : WRel base ρ1 (putK S1 b (.loop 1 pe1 t9 ps1 asg1 c1 n1)) (w1.putObj r (.loop { l1 with state := .busy })) := g4.world.put ⟨_, hb1⟩ hρ1 (ORel.loop (x := x) (r := { l1 with state := .busy }) rfl e2 e3 e4 e5 e6 e7 e8)
    refine ⟨_, run_beginRound hh1 (e1.trans hst1), ?_⟩
    rw [a7]
    refine code_wp (N := l.tmps.size) (ro := some r) (rd := true) hm hN hcl hag (.inr rfl) a8 c ρ1 _ _ t1 a1' _ _ ⟨hput, g4.tmps, g4.defers, g4.size⟩ g1 fun y t'' S' ρ' a' w' h1 h2 h3 h4 => ?_
    obtain ⟨st', pe', t2, ps', asg', c', n', hb', h1⟩ := onLoop_some (show onLoop S' b _ = some z from h1)
    obtain ⟨hst', h1⟩ := ifB_some h1
    have hρ' := h2 _ _ hρ1
    obtain ⟨l', hh', b1, b2, b3, b4, b5, b6, b7, b8⟩ := h4.world.loop hb' hρ'
    have hk : Keep ρ ρ' S S' := g3.trans ((Keep.put hρ1).trans h3)
    have hle := Rho.le_trans g2 h2
    cases y with
    | normal =>
      refine ⟨_, _, run_endRound hh' none, ?_⟩
      refine hR _ _ ρ' _ _ h1 hle (hk.trans (.put hρ')) (h4.world.put ⟨_, hb'⟩ hρ' (ORel.loop (x := x) (r := { l' with state := .ready, pending := none }) rfl rfl b3 b4 b5 b6 b7 b8)) (.bool _)
    | ret =>
      refine ⟨_, _, run_endRound hh' (some .ret), ?_⟩
      refine hR _ _ ρ' _ _ h1 hle (hk.trans (.put hρ')) (h4.world.put ⟨_, hb'⟩ hρ' (ORel.loop (x := x) (r := { l' with state := .done, pending := some .ret }) rfl rfl b3 b4 b5 b6 b7 b8)) (.bool _)
    | exit i =>
      refine ⟨_, _, run_endRound hh' (some (.exit i)), ?_⟩
      refine hR _ _ ρ' _ _ h1 hle (hk.trans (.put hρ')) (h4.world.put ⟨_, hb'⟩ hρ' (ORel.loop (x := x) (r := { l' with state := .done, pending := some (.exit i) }) rfl rfl b3 b4 b5 b6 b7 b8)) (.bool _)

theorem both_ok {FT : PT AF} {tab : Opt} (hX : OptOK Lg P tab) (hM : MemoOK Lg P tab.memo) (hF : FTOk P FT) (hm : P.follows .mixedOrders = true) (hN : NamesOk P) : ∀ n, AgOK Lg P (both FT (comp P true) tab n).1 n ∧ ClOK Lg P (both FT (comp P true) tab n).2
  | 0 => ⟨fun _ _ _ _ _ _ _ _ _ _ _ _ _ _ _ _ _ h => (by cases h), fun _ _ _ _ _ _ _ _ _ _ _ _ h => (by cases h)⟩
  | n + 1 => by
    obtain ⟨h1, h2⟩ := both_ok hX hM hF hm hN n
    refine ⟨fun ro rd k N base b ρ S w t a kx z Q hro hn hr h hq => ?_, call_ok n hX hM hF hm hN h2 h1⟩
    exact loop_round hro h1 hn (code_wp hm hN h2 h1 hro hn b) hr h hq

/-! ### The table -/
theorem tabOf_get : ∀ (l : List Func) (n : Nat) (t : PT AF) (g : Nat) (af : AF), (tabOf P l n t).getK g = some af → t.getK g = some af ∨ ∃ i fn, g = n + i ∧ l[i]? = some fn ∧ compFn P fn = some af
  | [], n, t, g, af, h => .inl h
  | f :: l, n, t, g, af, h => by
    have h : (tabOf P l (n + 1) (Option.rec t (fun a => t.setK (some a) n) (compFn P f))).getK g = some af := h
    rcases tabOf_get l (n + 1) _ g af h with h1 | ⟨i, fn, h1, h2, h3⟩
    · cases hc : compFn P f with
      | none => rw [hc] at h1; exact .inl h1
      | some a =>
        rw [hc] at h1
        rcases PT.getK_setK _ _ _ h1 with ⟨e1, e2⟩ | ⟨_, e2⟩
        · exact .inr ⟨0, f, e1, rfl, by rw [hc]; exact e2⟩
        · exact .inl e2
    · exact .inr ⟨i + 1, fn, by omega, by simpa using h2, h3⟩
theorem tabOf_ok : FTOk P (tabOf P P.funcs.toList 0 .nil) := fun g af h => by
  rcases tabOf_get _ _ _ _ _ h with h1 | ⟨i, fn, h1, h2, h3⟩
  · cases h1
  · subst h1
    exact ⟨fn, by rw [Nat.zero_add, ← Array.getElem?_toList]; exact h2, h3⟩

noncomputable def start : AS := { heap := .nil, next := 0 }
theorem start_rel (w : World) (hL : Lg.In w) : WRel (Base.of w hL) (fun _ => none) start w :=
  { low := fun _ _ _ => rfl, size := Nat.le_refl _, os := rfl, output := rfl, tape := rfl, dom := fun _ _ => rfl, rng := fun _ _ _ h => (by cases h), inj := fun _ _ _ _ _ _ _ h _ => (by cases h), obj := fun _ _ _ _ _ h => (by cases h) }
/-- What is asked of a run's end: this value. -/
noncomputable def pin (v0 : AV) : K := fun v _ => ifB (sameV v v0) (some (.bool true, none)) none
/-- What is asked of a run's end: true. -/
noncomputable def fin : K := fun v _ => onBool v fun b => ifB b (some (.bool true, none)) none
section
variable {tab : Opt} (hX : OptOK Lg P tab) (hM : MemoOK Lg P tab.memo) (hm : P.follows .mixedOrders = true) (hN : NamesOk P)
include hX hM hm hN
/-- **What our machine says of a call, the call does**: the arguments are such as denote what is handed in, in no block of ours (.junk: whatever it is). -/
theorem exec_args {g : FuncId} {n : Nat} {xs : List AV} {us : List Value} (hx : DenL (fun _ => none) xs us) (h : sndK (both (tabOf P P.funcs.toList 0 .nil) (comp P true) tab n) (.fn g) xs start fin = some (.bool true, none)) (w : World) (hL : Lg.In w) :
    Calls P g us.toArray w fun e w' => (e = .returned (.bool true)) ∧ (∀ r, r < w.heap.size → w'.heap[r]? = w.heap[r]?) ∧ w.heap.size ≤ w'.heap.size ∧ w'.os = w.os ∧ w'.output = w.output ∧ w'.tape = w.tape :=
  callsIn_wide.1 ((both_ok hX hM tabOf_ok hm hN n).2 (Base.of w hL) _ _ w (.fn g) xs us _ _ _ (start_rel w hL) hx h fun v S' ρ' w' u h1 _ _ h4 h5 => by
    obtain ⟨b, hb, h1⟩ := onBool_some (show onBool v (fun b => ifB b (some ((.bool true : AV), none)) none) = some (.bool true, none) from h1)
    obtain ⟨hb', _⟩ := ifB_some h1
    rw [hb, hb'] at h5
    cases h5
    exact ⟨rfl, fun r hr => h4.low r hr (fun h => h), h4.size, h4.os, h4.output, h4.tape⟩).1
/-- **What our machine says of a function without arguments, its run does.** -/
theorem exec {g : FuncId} {n : Nat} (h : sndK (both (tabOf P P.funcs.toList 0 .nil) (comp P true) tab n) (.fn g) [] start fin = some (.bool true, none)) (w : World) (hL : Lg.In w) :
    Calls P g #[] w fun e w' => (e = .returned (.bool true)) ∧ (∀ r, r < w.heap.size → w'.heap[r]? = w.heap[r]?) ∧ w.heap.size ≤ w'.heap.size ∧ w'.os = w.os ∧ w'.output = w.output ∧ w'.tape = w.tape :=
  exec_args hX hM hm hN (us := []) .nil h w hL
/-- One more call whose answer is known. -/
theorem exec_memo {g : FuncId} {n : Nat} {xs : List AV} {v : AV} (hp : pureL (v :: xs) = true) (h : sndK (both (tabOf P P.funcs.toList 0 .nil) (comp P true) tab n) (.fn g) xs start (pin v) = some (.bool true, none)) : MemoOK Lg P ((g, xs, v) :: tab.memo) := fun g' xs' v' hmem => by
  rcases List.mem_cons.1 hmem with hmem | hmem
  · cases hmem
    refine ⟨(pureL_cons hp).2, fun us hx w hL => ?_⟩
    exact (both_ok hX hM tabOf_ok hm hN n).2 (Base.of w hL) _ _ w (.fn g) xs us _ _ (fun e w' => ∃ u, e = .returned u ∧ Den (fun _ => none) v u ∧ Grown w w') (start_rel w hL) hx h fun v1 S' ρ' w' u h1 _ _ h4 h5 => by
      obtain ⟨hs, _⟩ := ifB_some (show ifB (sameV v1 v) (some ((.bool true : AV), none)) none = some (.bool true, none) from h1)
      rw [sameV_eq _ _ hs] at h5
      exact ⟨u, rfl, h5.pure (pureL_cons hp).1, ⟨fun r hr => h4.low r hr (fun h => h), h4.size, h4.os, h4.output, h4.tape⟩⟩
  · exact hM g' xs' v' hmem
end
theorem memo_nil : MemoOK Lg P [] := fun _ _ _ h => by cases h
end Go.Proofs.YtpllompnfhpfmaaGreatDoor.Exe
namespace Go.Proofs.YtpllompnfhpfmaaGreatDoor.Exe
open Go
variable {Lg : Laid} {P : Program}

/-! ### The same of the machine that the kernel runs -/
section
variable {tab : Opt} (hX : OptOK Lg P tab) (hM : MemoOK Lg P tab.memo) (hm : P.follows .mixedOrders = true) (hN : NamesOk P)
include hX hM hm hN
theorem execF_args {g : FuncId} {n : Nat} {xs : List AV} {us : List Value} (hx : DenL (fun _ => none) xs us) (h : sndF (bothF (tabOf P P.funcs.toList 0 .nil) (comp P true) tab n) (.fn g) xs start fin = some (.bool true, none)) (w : World) (hL : Lg.In w) :
    Calls P g us.toArray w fun e w' => (e = .returned (.bool true)) ∧ (∀ r, r < w.heap.size → w'.heap[r]? = w.heap[r]?) ∧ w.heap.size ≤ w'.heap.size ∧ w'.os = w.os ∧ w'.output = w.output ∧ w'.tape = w.tape :=
  exec_args (n := n) hX hM hm hN hx (by rw [← sndF_eq]; exact h) w hL
theorem execF {g : FuncId} {n : Nat} (h : sndF (bothF (tabOf P P.funcs.toList 0 .nil) (comp P true) tab n) (.fn g) [] start fin = some (.bool true, none)) (w : World) (hL : Lg.In w) :
    Calls P g #[] w fun e w' => (e = .returned (.bool true)) ∧ (∀ r, r < w.heap.size → w'.heap[r]? = w.heap[r]?) ∧ w.heap.size ≤ w'.heap.size ∧ w'.os = w.os ∧ w'.output = w.output ∧ w'.tape = w.tape :=
  exec (n := n) hX hM hm hN (by rw [← sndF_eq]; exact h) w hL
theorem execF_memo {g : FuncId} {n : Nat} {xs : List AV} {v : AV} (hp : pureL (v :: xs) = true) (h : sndF (bothF (tabOf P P.funcs.toList 0 .nil) (comp P true) tab n) (.fn g) xs start (pin v) = some (.bool true, none)) : MemoOK Lg P ((g, xs, v) :: tab.memo) :=
  exec_memo (n := n) hX hM hm hN hp (by rw [← sndF_eq]; exact h)
end

/-! ### What is handed in and not looked at -/
theorem okWide_one {w : World} {r : Reach} {base : Nat} {t : TypeId} {v : Value} (h : Cell.okWide P w r base t v) : v.cells = #[v] ∧ v.oneCell' = true := by
  cases v <;> first | exact ⟨rfl, rfl⟩ | skip
  all_goals
    exfalso
    unfold Cell.okWide at h
    split at h <;> first | contradiction | skip
    unfold Cell.ok at h
    split at h <;> first | contradiction | exact h
theorem anyCells {ρ : Rho} : ∀ us : List Value, (∀ v ∈ us, v.cells = #[v] ∧ v.oneCell' = true) → Cells ρ (List.replicate us.length .any) us
  | [], _ => .nil
  | v :: us, h => .one rfl (.any (h v List.mem_cons_self).1 (h v List.mem_cons_self).2) (anyCells us fun x hx => h x (List.mem_cons_of_mem _ hx))
theorem struct_any {w : World} {r : Reach} {base : Nat} {t : TypeId} {v : Value} {fs : Array Field} (hu : P.underlying t = some (.struct fs)) (h : Value.okWide P w r base t v) : ∃ cs, v = .agg cs ∧ Cells (fun _ => none) (List.replicate (P.cellsOf t) .any) cs.toList := by
  simp only [Value.okWide, hu] at h
  obtain ⟨cs, rfl, h2, ts, _, _, h3⟩ := h
  refine ⟨cs, rfl, ?_⟩
  rw [← h2, ← Array.length_toList]
  refine anyCells cs.toList fun v hv => ?_
  obtain ⟨i, hi⟩ := List.mem_iff_getElem?.1 hv
  obtain ⟨u, _, hc⟩ := h3 i v (by rw [← Array.getElem?_toList]; exact hi)
  exact okWide_one hc
end Go.Proofs.YtpllompnfhpfmaaGreatDoor.Exe
