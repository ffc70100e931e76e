/- A part of the machine that reckons a closed run, and of the proof that what it says the given program does. No conditions. -/
import Derived.Test.YtgpbcnagaelhiaaGreatMf
import Derived.Maps.RangeRun
import Derived.OrdersIn
import Derived.LoopNIn
import Derived.Scope
import Derived.RangeFuncLeaves
set_option linter.unusedVariables false
set_option linter.unusedSimpArgs false
namespace Go.Proofs.YtgpbcnagaelhiaaGreat.Exe
open Go
variable {base : Base} {w : World} {P : Program} {ρ : Rho} {S : AS} {t : T} {e : Operand → Value} {o : Oper} {c : K} {z : AV × Option AS}

/-! ### A range over a map -/
theorem nilNo_three {v : AV} (h : Nat.beq (nilNo v) 3 = true) : v = .mnil := by
  cases v <;> first | rfl | cases h
theorem onIter_some {b : Nat} {k : Option Nat → Nat → List Nat → Nat → R} (h : onIter S b k = some z) : ∃ m since seen last, S.heap.getK b = some (.iter m since seen last) ∧ k m since seen last = some z := by
  obtain ⟨o, ho, h⟩ := onSome_some h
  cases o with
  | iter m since seen last => exact ⟨m, since, seen, last, ho, h⟩
  | _ => exact absurd h (by intro h; cases h)
theorem Ents.of_mem : ∀ {es : List (AV × AV × Nat)} {ms : List MapEntry}, Ents ρ es ms → ∀ m ∈ ms, ∃ x ∈ es, Den ρ x.1 m.key ∧ Den ρ x.2.1 m.val ∧ m.born = x.2.2
  | _, _, .nil, _, h => by cases h
  | _, _, .cons a b c d, m, h => by
    rcases List.mem_cons.1 h with rfl | h
    · exact ⟨_, List.mem_cons_self, a, b, c⟩
    · obtain ⟨x, hx, r⟩ := d.of_mem m h
      exact ⟨x, List.mem_cons_of_mem _ hx, r⟩
theorem Ents.mem_of : ∀ {es : List (AV × AV × Nat)} {ms : List MapEntry}, Ents ρ es ms → ∀ x ∈ es, ∃ m ∈ ms, m.born = x.2.2
  | _, _, .nil, _, h => by cases h
  | _, _, .cons a b c d, x, h => by
    rcases List.mem_cons.1 h with rfl | h
    · exact ⟨_, List.mem_cons_self, c⟩
    · obtain ⟨m, hm, r⟩ := d.mem_of x h
      exact ⟨m, List.mem_cons_of_mem _ hm, r⟩
theorem s_mrange {ty kt el : TypeId} {x : Operand} {x' : AR} (ho : o.op = .range ty x) (hu : P.underlying ty = some (.map kt el)) (hx : ofOperand x = some x') (he : EvRel ρ t e) (hw : WRel base ρ S w) (h : kMRange x' t S c = some z) : OpPost base P ρ S e o w c z := by
  have hdx := he x x' hx
  have hle := Rho.le_add (r := (w.heap.size, 0)) (hw.dom _ (Nat.le_refl _))
  rcases ifB_or (show ifB (Nat.beq (nilNo (ev x' t)) 3) _ (onMap (ev x' t) _) = some z from h) with ⟨hn, h⟩ | ⟨_, h⟩
  · rw [nilNo_three hn] at hdx
    generalize hex : e x = ex at hdx
    cases hdx
    refine ⟨_, _, _, _, _, newK_some h, hle, .new, hw.alloc _ (.mapIter none 0 #[] 0) 0 (.iter (seen := []) trivial), .ptr (Rho.add_same _ _ _), .inl ?_⟩
    simp [execOp, ho, hex, run_range_nilMap w ty kt el hu]
  · obtain ⟨b, hv, h⟩ := onMap_some h
    obtain ⟨es, cl, hb, h⟩ := onMapO_some h
    rw [hv] at hdx
    generalize hex : e x = ex at hdx
    cases hdx with
    | @map _ r q hρ =>
      obtain ⟨ms, hms, hE⟩ := hw.map hb hρ
      refine ⟨_, _, _, _, _, newK_some h, hle, .new, hw.alloc _ (.mapIter (some r) cl #[] cl) 0 (.iter (seen := []) ⟨q, hle _ _ hρ⟩), .ptr (Rho.add_same _ _ _), .inl ?_⟩
      simp [execOp, ho, hex, run_range_map w ty kt el r ms.toArray cl hu hms]
theorem next_ok {v : AV} {ux : Value} (hdx : Den ρ v ux) (hw : WRel base ρ S w) (h : nextV v S c = some z) :
    ∃ v1 S' ρ' w' u, c v1 S' = some z ∧ ρ.le ρ' ∧ Keep ρ ρ' S S' ∧ WRel base ρ' S' w' ∧ Den ρ' v1 u ∧ ∀ ty, (Instr.next ux false ty).run P w = .ok u w' := by
  obtain ⟨b, q, hv, h⟩ := onPtr_some h
  obtain ⟨hq, h⟩ := ifB_some h
  have hq := beq_true hq
  subst hq
  obtain ⟨m, since, seen, last, hb, h⟩ := onIter_some h
  rw [hv] at hdx
  cases hdx with
  | @ptr _ _ r q hρ =>
    obtain ⟨u, hu, hrel⟩ := hw.obj b _ r q hb hρ
    cases hrel with
    | @iter _ m' _ _ _ hm =>
      cases m with
      | none =>
        cases m' with
        | some _ => exact hm.elim
        | none =>
          refine ⟨_, _, ρ, w, _, h, ρ.le_refl, .refl ρ S, hw, .tup (.cons (.bool false) .nil), fun ty => ?_⟩
          simp [Instr.next, getObj, Sem.run, hu, Result.andThen]
      | some mb =>
        cases m' with
        | none => exact hm.elim
        | some rm =>
          obtain ⟨qm, hρm⟩ := hm
          obtain ⟨es, cl, hmb, h⟩ := onMapO_some (show onMapO S mb _ = some z from h)
          obtain ⟨hsl, h⟩ := ifB_some h
          obtain ⟨hold, h⟩ := ifB_some h
          obtain ⟨ms, hms, hE⟩ := hw.map hmb hρm
          have hold' : ∀ y ∈ ms.toArray.toList, y.born < since := fun y hy => by
            obtain ⟨e1, he1, _, _, hb1⟩ := hE.of_mem y (by simpa using hy)
            rw [hb1]
            exact oldK_mem hold e1 he1
          rcases run_next_at (P := P) w 0 r rm since last seen.toArray ms.toArray cl hu hms hold' (ble_true hsl) with ⟨h0, hrun⟩ | ⟨y, hy, w1, hal, hrun⟩
          · have hl : leftK seen es = [] := by
              rw [leftK_eq, List.filter_eq_nil_iff]
              intro e1 he1 hc
              obtain ⟨y, hy, hby⟩ := hE.mem_of e1 he1
              have hmem : y ∈ (leftOf ms.toArray seen.toArray).toList := by
                unfold leftOf
                simp only [Array.toList_filter]
                refine List.mem_filter.2 ⟨by simpa using hy, ?_⟩
                rw [hby]
                simpa using hc
              have : (leftOf ms.toArray seen.toArray).toList = [] := List.length_eq_zero_iff.1 (by rw [Array.length_toList]; exact h0)
              rw [this] at hmem
              cases hmem
            rw [hl] at h
            refine ⟨_, _, ρ, w, _, h, ρ.le_refl, .refl ρ S, hw, .tup (.cons (.bool false) .nil), fun ty => hrun⟩
          · have hy' : y ∈ ms ∧ seen.contains y.born = false := by
              unfold leftOf at hy
              simp only [Array.toList_filter] at hy
              obtain ⟨h1, h2⟩ := List.mem_filter.1 hy
              exact ⟨by simpa using h1, by simpa using h2⟩
            obtain ⟨e1, he1, hk1, hv1, hb1⟩ := hE.of_mem y hy'.1
            have hmem : e1 ∈ leftK seen es := by
              rw [leftK_eq]
              refine List.mem_filter.2 ⟨he1, ?_⟩
              rw [← hb1, hy'.2]
              rfl
            have hc := branchK_mem h e1 hmem
            have hput : WRel base ρ (putK S b (.iter (some mb) since (List.append seen [e1.2.2]) cl)) (w1.putObj r (.mapIter (some rm) since (seen.toArray.push y.born) cl)) := by
              have ho2 : ORel ρ q (.iter (some mb) since (List.append seen [e1.2.2]) cl) (.mapIter (some rm) since (seen.toArray.push y.born) cl) := by
                have : seen.toArray.push y.born = (List.append seen [e1.2.2]).toArray := by
                  rw [hb1]
                  show seen.toArray.push e1.2.2 = (seen ++ [e1.2.2]).toArray
                  simp
                rw [this]
                exact .iter ⟨qm, hρm⟩
              rcases hal with rfl | rfl
              · exact hw.put ⟨_, hb⟩ hρ ho2
              · exact hw.drew.put ⟨_, hb⟩ hρ ho2
            refine ⟨_, _, ρ, _, _, hc, ρ.le_refl, .put hρ, hput, .tup (.cons (.bool true) (.cons hk1 (.cons hv1 .nil))), fun ty => hrun⟩
theorem born_rel : ∀ {es : List (AV × AV × Nat)} {ms : List MapEntry} {n : Nat} {x : AV × AV × Nat}, Ents ρ es ms → bornK n es = some x → ∃ m, ms.find? (·.born == n) = some m ∧ Den ρ x.1 m.key ∧ Den ρ x.2.1 m.val
  | _, _, _, _, .nil, h => by cases h
  | (k, v, b) :: es, m :: ms, n, x, .cons d1 d2 d3 d4, h => by
    rcases ifB_or (show ifB (Nat.beq b n) (some (k, v, b)) (bornK n es) = some x from h) with ⟨h1, h2⟩ | ⟨h1, h2⟩
    · cases h2
      have hb := beq_true h1
      exact ⟨m, by rw [List.find?_cons]; simp [d3, hb], d1, d2⟩
    · obtain ⟨m', g1, g2⟩ := born_rel d4 h2
      refine ⟨m', ?_, g2⟩
      have hne : (m.born == n) = false := by
        rw [d3]
        cases hq : b == n with
        | false => rfl
        | true => rw [beq_iff_eq.1 hq] at h1; simp at h1
      rw [List.find?_cons, hne]
      exact g1
theorem s_mentry {x : Operand} {x' : AR} (ho : o.op = .entry x) (hx : ofOperand x = some x') (he : EvRel ρ t e) (hw : WRel base ρ S w) (h : kMEntry x' t S c = some z) : OpVal P ρ S e o w c z := by
  have hdx := he x x' hx
  obtain ⟨b, q, hv, h⟩ := onPtr_some h
  obtain ⟨hq, h⟩ := ifB_some h
  have hq := beq_true hq
  subst hq
  obtain ⟨m, since, seen, last, hb, h⟩ := onIter_some h
  rw [hv] at hdx
  generalize hex : e x = ex at hdx
  cases hdx with
  | @ptr _ _ r q hρ =>
    obtain ⟨u, hu, hrel⟩ := hw.obj b _ r q hb hρ
    cases hrel with
    | @iter _ m' _ _ _ hm =>
      cases m with
      | none => cases h
      | some mb =>
        cases m' with
        | none => exact hm.elim
        | some rm =>
          obtain ⟨qm, hρm⟩ := hm
          cases hbk : backK seen with
          | none =>
            have h : (Option.rec (motive := fun _ => R) none (fun stamp => onMapO S mb fun es clock => ifB (Nat.beq clock last) (Option.rec (motive := fun _ => R) none (fun e => c (.tup [e.1, e.2.1]) S) (bornK stamp es)) none) (backK seen) : R) = some z := h
            rw [hbk] at h
            cases h
          | some stamp =>
            have h : (Option.rec (motive := fun _ => R) none (fun stamp => onMapO S mb fun es clock => ifB (Nat.beq clock last) (Option.rec (motive := fun _ => R) none (fun e => c (.tup [e.1, e.2.1]) S) (bornK stamp es)) none) (backK seen) : R) = some z := h
            rw [hbk] at h
            obtain ⟨es, cl, hmb, h⟩ := onMapO_some (show onMapO S mb _ = some z from h)
            obtain ⟨hcl, hq2⟩ := ifB_some h
            have hcl := beq_true hcl
            subst hcl
            obtain ⟨ms, hms, hE⟩ := hw.map hmb hρm
            cases hbo : bornK stamp es with
            | none => rw [hbo] at hq2; cases hq2
            | some y =>
              rw [hbo] at hq2
              obtain ⟨me, g1, g2, g3⟩ := born_rel hE hbo
              refine .pure hq2 hw (.tup (.cons g2 (.cons g3 .nil))) ?_
              rw [backK_eq] at hbk
              have e1 : seen.toArray.back? = some stamp := by rw [List.back?_toArray]; exact hbk
              simp [execOp, ho, hex, Instr.entry, getObj, Sem.run, hu, hms, e1, g1, Result.andThen]
end Go.Proofs.YtgpbcnagaelhiaaGreat.Exe
namespace Go.Proofs.YtgpbcnagaelhiaaGreat.Exe
open Go
variable {base : Base} {w : World} {P : Program} {ρ : Rho} {S : AS} {t : T} {e : Operand → Value} {o : Oper} {c : K} {z : AV × Option AS}

theorem isCall_none {a : AO} (h : isCall a = true) : opK a t S c = none := by
  cases a <;> first | rfl | cases h

theorem isCall_class {a : AO} (h : isCall a = true) : isVal a = false ∧ isMk a = false := by
  cases a <;> first | exact ⟨rfl, rfl⟩ | cases h
theorem sound_callee {a : AO} (hc : isCall a = true) (ho : IsCallOp o) : Sound P o a :=
  .inr (.inr ⟨(isCall_class hc).1, (isCall_class hc).2, fun _ => ho, fun base ρ S e w t c z he hw h => by rw [isCall_none hc] at h; cases h⟩)

theorem aggT_of_struct {ty : TypeId} {fs : Array Field} (h : P.underlying ty = some (.struct fs)) : aggT P ty = true := by unfold aggT; rw [h]
theorem aggT_of_array {ty el : TypeId} {n : Nat} (h : P.underlying ty = some (.array n el)) : aggT P ty = true := by unfold aggT; rw [h]

theorem sound_bin {op : BinOp} {ty yt : TypeId} {x y : Operand} {x' y' : AR} {a : AO} (ho : o.op = .binOp op ty x y yt) (hx : ofOperand x = some x') (hy : ofOperand y = some y') (h : compBin P op ty x' y' = some a) : Sound P o a := by
  cases hu : P.underlying ty with
  | none => simp [compBin, hu] at h
  | some d =>
    cases d <;> simp only [compBin, hu] at h <;> try (cases h; done)
    case int k => cases h; exact .inl ⟨rfl, fun base ρ S e w t c z he hw hc => s_bin ho hx hy he hw hc⟩
    case string => cases h; exact .inl ⟨rfl, fun base ρ S e w t c z he hw hc => s_strOp ho hx hy he hw hc⟩
    case bool =>
      obtain ⟨n, hn, rfl⟩ := map_some h
      exact .inl ⟨rfl, fun base ρ S e w t c z he hw hc => s_eqBool ho hn hu hx hy he hw hc⟩
    case pointer el =>
      obtain ⟨n, hn, rfl⟩ := map_some h
      exact .inl ⟨rfl, fun base ρ S e w t c z he hw hc => s_eqNil ho hn hu (by simp [nilKind]) hx hy he hw hc⟩
    case slice el =>
      obtain ⟨n, hn, rfl⟩ := map_some h
      exact .inl ⟨rfl, fun base ρ S e w t c z he hw hc => s_eqNil ho hn hu (by simp [nilKind]) hx hy he hw hc⟩
    case map k v =>
      obtain ⟨n, hn, rfl⟩ := map_some h
      exact .inl ⟨rfl, fun base ρ S e w t c z he hw hc => s_eqNil ho hn hu (by simp [nilKind]) hx hy he hw hc⟩
    case func =>
      obtain ⟨n, hn, rfl⟩ := map_some h
      exact .inl ⟨rfl, fun base ρ S e w t c z he hw hc => s_eqNil ho hn hu (by simp [nilKind]) hx hy he hw hc⟩
    case interface =>
      obtain ⟨n, hn, rfl⟩ := map_some h
      exact .inl ⟨rfl, fun base ρ S e w t c z he hw hc => s_eqNil ho hn hu (by simp [nilKind]) hx hy he hw hc⟩
    case struct fs =>
      obtain ⟨hg, h⟩ := bif_none h
      obtain ⟨l, hl, h⟩ := bind_some h
      obtain ⟨n, hn, rfl⟩ := map_some h
      exact .inl ⟨rfl, fun base ρ S e w t c z he hw hc => s_eqPlain ho hn (aggT_of_struct hu) hg hl hx hy he hw hc⟩
    case array n el =>
      obtain ⟨hg, h⟩ := bif_none h
      obtain ⟨l, hl, h⟩ := bind_some h
      obtain ⟨n, hn, rfl⟩ := map_some h
      exact .inl ⟨rfl, fun base ρ S e w t c z he hw hc => s_eqPlain ho hn (aggT_of_array hu) hg hl hx hy he hw hc⟩

theorem sound_conv {sr ds : TypeId} {x : Operand} {x' : AR} {a : AO} (ho : o.op = .convert sr ds x) (hx : ofOperand x = some x') (h : compConv P sr ds x' = some a) : Sound P o a := by
  cases hu : P.underlying sr with
  | none => simp [compConv, hu] at h
  | some d =>
    cases hd : P.underlying ds with
    | none => cases d <;> simp [compConv, hu, hd] at h
    | some d2 =>
      cases d <;> simp only [compConv, hu, hd] at h <;> try (cases h; done)
      case int k =>
        cases d2 <;> simp only at h <;> try (cases h; done)
        case int k2 => cases h; exact .inl ⟨rfl, fun base ρ S e w t c z he hw hc => s_toInt ho hu hd hx he hw hc⟩
      case string =>
        cases d2 <;> simp only at h <;> try (cases h; done)
        case slice el =>
          cases hel : P.underlying el with
          | none => simp [hel] at h
          | some de =>
            cases de <;> simp only [hel] at h <;> try (cases h; done)
            case int k =>
              cases k <;> simp only at h <;> try (cases h; done)
              cases h
              exact .inr (.inl ⟨rfl, rfl, fun t S c z hc => s_toBytes ho hu hd hel hx hc⟩)
      case slice el0 =>
        cases d2 <;> simp only at h <;> try (cases h; done)
        case string =>
          cases hel : P.underlying el0 with
          | none => simp [hel] at h
          | some de =>
            cases de <;> simp only [hel] at h <;> try (cases h; done)
            case int k =>
              cases k <;> simp only at h <;> try (cases h; done)
              cases h
              exact .inl ⟨rfl, fun base ρ S e w t c z he hw hc => s_toStr ho hu hd hel hx he hw hc⟩
        case slice el =>
          obtain ⟨hb, h2⟩ := bif_some h
          clear h
          have := beq_true hb
          subst this
          have h := h2
          clear h2
          cases hel : P.underlying el with
          | none => simp [hel] at h
          | some de =>
            cases de <;> simp only [hel] at h <;> try (cases h; done)
            case int k =>
              cases k <;> simp only at h <;> try (cases h; done)
              cases h
              exact .inr (.inr ⟨rfl, rfl, (by intro h; cases h), fun base ρ S e w t c z he hw hc => s_mark ho hd hel hx he hw hc⟩)

theorem sound_index {ty : TypeId} {x i : Operand} {x' i' : AR} {a : AO} (ho : o.op = .index ty x i) (hx : ofOperand x = some x') (hi : ofOperand i = some i')
    (h : (match P.underlying ty with
      | some (.array n e) => bif known P e then some (AO.ixArray n (sizeT P e) (aggT P e) x' i') else none
      | some .string => some (.ixString x' i')
      | _ => none) = some a) : Sound P o a := by
  cases hu : P.underlying ty with
  | none => simp [hu] at h
  | some d =>
    cases d <;> simp only [hu] at h <;> try (cases h; done)
    case array n el =>
      obtain ⟨hk, h⟩ := bif_some h
      cases h
      obtain ⟨d, hd, hn⟩ := known_some hk
      exact .inl ⟨rfl, fun base ρ S e w t c z he hw hc => s_ixArray ho hu hd hn hx hi he hw hc⟩
    case string => cases h; exact .inl ⟨rfl, fun base ρ S e w t c z he hw hc => s_ixString ho hu hx hi he hw hc⟩

theorem sound_indexAddr {ty : TypeId} {x i : Operand} {x' i' : AR} {a : AO} (ho : o.op = .indexAddr ty x i) (hx : ofOperand x = some x') (hi : ofOperand i = some i')
    (h : (match P.underlying ty with
      | some (.array n e) => bif known P e then some (AO.atArray n (sizeT P e) x' i') else none
      | some (.slice e) => bif known P e then some (.atSlice (sizeT P e) x' i') else none
      | _ => none) = some a) : Sound P o a := by
  cases hu : P.underlying ty with
  | none => simp [hu] at h
  | some d =>
    cases d <;> simp only [hu] at h <;> try (cases h; done)
    case array n el =>
      obtain ⟨hk, h⟩ := bif_some h
      cases h
      obtain ⟨d, hd, hn⟩ := known_some hk
      exact .inl ⟨rfl, fun base ρ S e w t c z he hw hc => s_atArray ho hu hn hx hi he hw hc⟩
    case slice el =>
      obtain ⟨hk, h⟩ := bif_some h
      cases h
      obtain ⟨d, hd, hn⟩ := known_some hk
      exact .inl ⟨rfl, fun base ρ S e w t c z he hw hc => s_atSlice ho hu hn hx hi he hw hc⟩

theorem sound_slice {ty : TypeId} {x : Operand} {lo hi mx : Option Operand} {x' : AR} {lo' hi' mx' : Option AR} {a : AO} (ho : o.op = .slice ty x lo hi mx) (hx : ofOperand x = some x') (hlo : ofOpt lo = some lo') (hhi : ofOpt hi = some hi') (hmx : ofOpt mx = some mx')
    (h : (match P.underlying ty with
      | some (.array n e) => bif known P e then some (AO.sliceArray n (sizeT P e) x' lo' hi' mx') else none
      | some (.slice e) => bif known P e then some (.sliceSlice (sizeT P e) x' lo' hi' mx') else none
      | some .string => strSlice x' lo' hi' mx'
      | _ => none) = some a) : Sound P o a := by
  cases hu : P.underlying ty with
  | none => simp [hu] at h
  | some d =>
    cases d <;> simp only [hu] at h <;> try (cases h; done)
    case array n el =>
      obtain ⟨hk, h⟩ := bif_some h
      cases h
      obtain ⟨d, hd, hn⟩ := known_some hk
      exact .inl ⟨rfl, fun base ρ S e w t c z he hw hc => s_sliceArray ho hu hn hx hlo hhi hmx he hw hc⟩
    case slice el =>
      obtain ⟨hk, h⟩ := bif_some h
      cases h
      obtain ⟨d, hd, hn⟩ := known_some hk
      exact .inl ⟨rfl, fun base ρ S e w t c z he hw hc => s_sliceSlice ho hu hn hx hlo hhi hmx he hw hc⟩
    case string =>
      cases mx' with
      | some _ => cases h
      | none =>
        cases h
        have hmx0 : mx = none := by
          cases mx with
          | none => rfl
          | some m => obtain ⟨_, _, h⟩ := map_some (show (ofOperand m).map some = some none from hmx); cases h
        subst hmx0
        exact .inl ⟨rfl, fun base ρ S e w t c z he hw hc => s_sliceString ho hu hx hlo hhi he hw hc⟩

theorem sound_field {ty : TypeId} {x : Operand} {i : Nat} {a : AO} (ho : o.op = .field ty x i)
    (h : (match P.underlying ty with
      | some (.struct fs) => (fs[i]?).bind fun f => bif known P f.type then (ofOperand x).map fun x => AO.field (aggT P f.type) f.offset (sizeT P f.type) x else none
      | _ => none) = some a) : Sound P o a := by
  cases hu : P.underlying ty with
  | none => simp [hu] at h
  | some d =>
    cases d <;> simp only [hu] at h <;> try (cases h; done)
    case struct fs =>
      obtain ⟨f, hf, h⟩ := bind_some h
      obtain ⟨hk, h⟩ := bif_some h
      obtain ⟨x', hx, rfl⟩ := map_some h
      obtain ⟨d, hd, hn⟩ := known_some hk
      exact .inl ⟨rfl, fun base ρ S e w t c z he hw hc => s_field ho hu hf hd hn hx he hw hc⟩

theorem sound_fieldAddr {ty : TypeId} {x : Operand} {i : Nat} {a : AO} (ho : o.op = .fieldAddr ty x i)
    (h : (match P.underlying ty with
      | some (.struct fs) => (fs[i]?).bind fun f => (bif Nat.beq (sizeT P f.type) 0 then none else (ofOperand x).map fun x => AO.fieldAddr f.offset x)
      | _ => none) = some a) : Sound P o a := by
  cases hu : P.underlying ty with
  | none => simp [hu] at h
  | some d =>
    cases d <;> simp only [hu] at h <;> try (cases h; done)
    case struct fs =>
      obtain ⟨f, hf, h⟩ := bind_some h
      obtain ⟨hk, h⟩ := bif_none h
      obtain ⟨x', hx, rfl⟩ := map_some h
      have hk := beq_false hk
      have hs : ∃ n, (P.info? f.type).map (·.size) = some n ∧ n ≠ 0 := by
        unfold sizeT at hk
        cases hi : P.info? f.type with
        | none => rw [hi] at hk; exact absurd rfl hk
        | some ti => rw [hi] at hk; exact ⟨ti.size, rfl, hk⟩
      exact .inl ⟨rfl, fun base ρ S e w t c z he hw hc => s_fieldAddr ho hu hf hs hx he hw hc⟩

theorem sound_build {ty : TypeId} {ps : Array (Nat × Operand)} {a : AO} (ho : o.op = .build ty ps)
    (h : ((zeroOf P ty).bind fun z => (match P.underlying ty with
      | some (.struct fs) => (placesOf P fs.toList).bind fun l => partsOf (fun i => l[i]?) ps.toList
      | some (.array _ e) => (P.info? e).bind fun ie => partsOf (fun i => some (i * ie.size, ie.size)) ps.toList
      | _ => none).map fun l => AO.build z l) = some a) : Sound P o a := by
  obtain ⟨zs, hz, h⟩ := bind_some h
  obtain ⟨l, hl, rfl⟩ := map_some h
  cases hu : P.underlying ty with
  | none => simp [hu] at hl
  | some d =>
    cases d <;> simp only [hu] at hl <;> try (cases hl; done)
    case struct fs =>
      obtain ⟨pl, hpl, hl⟩ := bind_some hl
      exact .inl ⟨rfl, fun base ρ S e w t c z he hw hc => s_build ho hz (fun parts zv i hi hzv => built_struct hu hpl parts zv i hi hzv) hl he hw hc⟩
    case array n el =>
      obtain ⟨ie, hie, hl⟩ := bind_some hl
      exact .inl ⟨rfl, fun base ρ S e w t c z he hw hc => s_build ho hz (fun parts zv i hi hzv => built_array hu hie parts zv i hi hzv) hl he hw hc⟩

theorem sound_buildSlice {ty : TypeId} {len : Nat} {ps : Array (Nat × Operand)} {a : AO} (ho : o.op = .buildSlice ty len ps)
    (h : (match P.underlying ty with
      | some (.slice e) => bif Nat.ble (len * sizeT P e) 16777216 && fullZero P e then (zeroOf P e).bind fun z => (partsOf (fun i => some (i * sizeT P e, sizeT P e)) ps.toList).map fun l => AO.buildSlice e (sizeT P e) len z l else none
      | _ => none) = some a) : Sound P o a := by
  cases hu : P.underlying ty with
  | none => simp [hu] at h
  | some d =>
    cases d <;> simp only [hu] at h <;> try (cases h; done)
    case slice el =>
      obtain ⟨hb, h⟩ := bif_some h
      obtain ⟨zs, hz, h⟩ := bind_some h
      obtain ⟨l, hl, rfl⟩ := map_some h
      rw [Bool.and_eq_true] at hb
      exact .inr (.inl ⟨rfl, rfl, fun t S c z hc => s_buildSlice ho hu hb.2 hz (ble_true hb.1) hl hc⟩)

theorem sound_makeSlice {ty : TypeId} {l k : Operand} {a : AO} (ho : o.op = .makeSlice ty l k)
    (h : (match P.underlying ty with
      | some (.slice e) => bif fullZero P e then (zeroOf P e).bind fun z => (ofOperand l).bind fun l => (ofOperand k).map fun c => AO.makeSlice e (sizeT P e) ((P.info? e).map (·.bytes) |>.getD 0) z l c else none
      | _ => none) = some a) : Sound P o a := by
  cases hu : P.underlying ty with
  | none => simp [hu] at h
  | some d =>
    cases d <;> simp only [hu] at h <;> try (cases h; done)
    case slice el =>
      obtain ⟨hb, h⟩ := bif_some h
      obtain ⟨zs, hz, h⟩ := bind_some h
      obtain ⟨l', hl, h⟩ := bind_some h
      obtain ⟨k', hk, rfl⟩ := map_some h
      obtain ⟨i, zv, hi, _⟩ := zeroOf_some (ρ := fun _ => none) hz
      refine .inr (.inl ⟨rfl, rfl, fun t S c z hc => s_makeSlice ho hu hb hz ?_ hl hk hc⟩)
      rw [hi]
      rfl

theorem sound_lookup {ty : TypeId} {x i : Operand} {ok : Bool} {a : AO} (ho : o.op = .lookup ty x i ok)
    (h : (match P.underlying ty with
      | some (.map kt e) => (strKey P kt).bind fun s => ((P.info? e).bind (·.zero)).bind fun z => (ofValue z).bind fun z => (ofOperand x).bind fun x => (ofOperand i).map fun i => AO.lookup s z x i ok
      | _ => none) = some a) : Sound P o a := by
  cases hu : P.underlying ty with
  | none => simp [hu] at h
  | some d =>
    cases d <;> simp only [hu] at h <;> try (cases h; done)
    case map kt el =>
      obtain ⟨s, hs, h⟩ := bind_some h
      obtain ⟨zv, hz, h⟩ := bind_some h
      obtain ⟨za, hza, h⟩ := bind_some h
      obtain ⟨x', hx, h⟩ := bind_some h
      obtain ⟨i', hix, rfl⟩ := map_some h
      obtain ⟨ti, hi, hz⟩ := bind_some hz
      obtain ⟨d, h1, h2⟩ := strKey_some hs
      exact .inl ⟨rfl, fun base ρ S e w t c z he hw hc => s_lookup ho hu h1 h2 hi hz hza hx hix he hw hc⟩

theorem sound_of {a : AO} (h : compOp? P o = some a) : Sound P o a := by
  obtain ⟨dst, op, type, pos, after, guard⟩ := o
  cases op with
  | move x =>
    obtain ⟨y, hy, rfl⟩ := map_some (show (ofOperand x).map AO.mv = some a from h)
    exact .inl ⟨rfl, fun base ρ S e w t c z he hw hc => s_move (.inl rfl) hy he hw hc⟩
  | assign x =>
    obtain ⟨y, hy, rfl⟩ := map_some (show (ofOperand x).map AO.mv = some a from h)
    exact .inl ⟨rfl, fun base ρ S e w t c z he hw hc => s_move (.inr rfl) hy he hw hc⟩
  | pick x y1 y2 =>
    obtain ⟨x', hx, h⟩ := bind_some (show (ofOperand x).bind (fun c => (ofOperand y1).bind fun a => (ofOperand y2).map fun b => AO.pick c a b) = some a from h)
    obtain ⟨a', ha, h⟩ := bind_some h
    obtain ⟨b', hb, rfl⟩ := map_some h
    exact .inl ⟨rfl, fun base ρ S e w t c z he hw hc => s_pick rfl hx ha hb he hw hc⟩
  | alloc el =>
    obtain ⟨zs, hz, rfl⟩ := map_some (show (zeroOf P el).map (fun z => AO.alloc el (sizeT P el) z) = some a from h)
    exact .inr (.inl ⟨rfl, rfl, fun t S c z _ => ⟨.cells el (sizeT P el) zs, fun b => .ptr b 0, fun _ _ => rfl, fun ρ e w _ => s_alloc rfl hz⟩⟩)
  | box el x =>
    obtain ⟨y, hy, rfl⟩ := map_some (show (ofOperand x).map (fun x => AO.box el (sizeT P el) x) = some a from h)
    refine .inr (.inl ⟨rfl, rfl, fun t S c z hc => ?_⟩)
    obtain ⟨ob, h1, h2⟩ := s_box (o := { dst, op := .box el x, type, pos, after, guard }) (P := P) rfl hy hc
    exact ⟨ob, _, h1, h2⟩
  | build ty ps => exact sound_build rfl h
  | buildSlice ty len ps => exact sound_buildSlice rfl h
  | load ty x =>
    obtain ⟨hk, h⟩ := bif_some (show (bif known P ty then (ofOperand x).map fun x => AO.load (aggT P ty) (sizeT P ty) x else none) = some a from h)
    obtain ⟨y, hy, rfl⟩ := map_some h
    obtain ⟨d, hd, hn⟩ := known_some hk
    exact .inl ⟨rfl, fun base ρ S e w t c z he hw hc => s_load rfl hd hn hy he hw hc⟩
  | store ty x y =>
    obtain ⟨hk, h⟩ := bif_some (show (bif known P ty then (ofOperand x).bind fun a => (ofOperand y).map fun x => AO.store (sizeT P ty) a x else none) = some a from h)
    obtain ⟨x', hx, h⟩ := bind_some h
    obtain ⟨y', hy, rfl⟩ := map_some h
    obtain ⟨d, hd, hn⟩ := known_some hk
    exact .inr (.inr ⟨rfl, rfl, (by intro h; cases h), fun base ρ S e w t c z he hw hc => s_store rfl hn hx hy he hw hc⟩)
  | nilCheck x =>
    obtain ⟨y, hy, rfl⟩ := map_some (show (ofOperand x).map AO.nilCheck = some a from h)
    exact .inl ⟨rfl, fun base ρ S e w t c z he hw hc => s_nilCheck rfl hy he hw hc⟩
  | binOp op ty x y yt =>
    obtain ⟨x', hx, h⟩ := bind_some (show (ofOperand x).bind (fun x => (ofOperand y).bind fun y => compBin P op ty x y) = some a from h)
    obtain ⟨y', hy, h⟩ := bind_some h
    exact sound_bin rfl hx hy h
  | unOp op ty x =>
    obtain ⟨y, hy, rfl⟩ := map_some (show (ofOperand x).map (fun x => AO.un op x) = some a from h)
    exact .inl ⟨rfl, fun base ρ S e w t c z he hw hc => s_un rfl hy he hw hc⟩
  | convert sr ds x =>
    obtain ⟨y, hy, h⟩ := bind_some (show (ofOperand x).bind (compConv P sr ds) = some a from h)
    exact sound_conv rfl hy h
  | sliceToArrayPointer ty x =>
    cases hu : P.underlying ty with
    | none => simp [compOp?, hu] at h
    | some d =>
      cases d <;> simp only [compOp?, hu] at h <;> try (cases h; done)
      obtain ⟨y, hy, rfl⟩ := map_some h
      exact .inl ⟨rfl, fun base ρ S e w t c z he hw hc => s_s2ap rfl hu hy he hw hc⟩
  | makeInterface ty x =>
    cases hu : P.underlying ty with
    | none => simp [compOp?, hu] at h
    | some d =>
      have hd : ∀ ms, d ≠ .interface ms := fun ms e => by subst e; simp [compOp?, hu] at h
      have h : (ofOperand x).map (fun x => AO.makeIface ty x) = some a := by
        cases d <;> simp only [compOp?, hu] at h <;> first | exact h | (cases h; done)
      obtain ⟨y, hy, rfl⟩ := map_some h
      exact .inl ⟨rfl, fun base ρ S e w t c z he hw hc => s_makeIface rfl hu hd hy he hw hc⟩
  | makeFunc fn x y =>
    cases fn with
    | func f =>
      obtain ⟨x', hx, h⟩ := bind_some (show (ofOperands x.toList).bind (fun a => (ofOperands y.toList).map fun b => AO.makeFunc f a b) = some a from h)
      obtain ⟨y', hy, rfl⟩ := map_some h
      exact .inl ⟨rfl, fun base ρ S e w t c z he hw hc => s_makeFunc rfl hx hy he hw hc⟩
    | _ => cases h
  | makeMap ty r =>
    cases r with
    | none =>
      cases h
      exact .inr (.inl ⟨rfl, rfl, fun t S c z _ => ⟨.map [] 0, fun b => .map b, fun _ _ => rfl, fun ρ e w _ => s_makeMap rfl⟩⟩)
    | some x =>
      cases x with
      | const v =>
        cases v with
        | int k n =>
          cases hu : P.underlying ty with
          | none => simp [compOp?, hu] at h
          | some d =>
            cases d <;> simp only [compOp?, hu] at h <;> try (cases h; done)
            cases h
            exact .inr (.inl ⟨rfl, rfl, fun t S c z _ => ⟨.map [] 0, fun b => .map b, fun _ _ => rfl, fun ρ e w he => s_makeMap' rfl hu he⟩⟩)
        | _ => cases h
      | _ => cases h
  | makeSlice ty l k => exact sound_makeSlice rfl h
  | slice ty x lo hi mx =>
    obtain ⟨x', hx, h⟩ := bind_some (show (ofOperand x).bind (fun x => (ofOpt lo).bind fun lo => (ofOpt hi).bind fun hi => (ofOpt mx).bind fun mx => (match P.underlying ty with
      | some (.array n e) => bif known P e then some (.sliceArray n (sizeT P e) x lo hi mx) else none
      | some (.slice e) => bif known P e then some (.sliceSlice (sizeT P e) x lo hi mx) else none
      | some .string => strSlice x lo hi mx
      | _ => none)) = some a from h)
    obtain ⟨lo', hlo, h⟩ := bind_some h
    obtain ⟨hi', hhi, h⟩ := bind_some h
    obtain ⟨mx', hmx, h⟩ := bind_some h
    exact sound_slice rfl hx hlo hhi hmx h
  | fieldAddr ty x i => exact sound_fieldAddr rfl h
  | field ty x i => exact sound_field rfl h
  | indexAddr ty x i =>
    obtain ⟨x', hx, h⟩ := bind_some (show (ofOperand x).bind (fun x => (ofOperand i).bind fun i => (match P.underlying ty with
      | some (.array n e) => bif known P e then some (.atArray n (sizeT P e) x i) else none
      | some (.slice e) => bif known P e then some (.atSlice (sizeT P e) x i) else none
      | _ => none)) = some a from h)
    obtain ⟨i', hi, h⟩ := bind_some h
    exact sound_indexAddr rfl hx hi h
  | index ty x i =>
    obtain ⟨x', hx, h⟩ := bind_some (show (ofOperand x).bind (fun x => (ofOperand i).bind fun i => (match P.underlying ty with
      | some (.array n e) => bif known P e then some (.ixArray n (sizeT P e) (aggT P e) x i) else none
      | some .string => some (.ixString x i)
      | _ => none)) = some a from h)
    obtain ⟨i', hi, h⟩ := bind_some h
    exact sound_index rfl hx hi h
  | lookup ty x i ok => exact sound_lookup rfl h
  | mapUpdate ty m k v =>
    obtain ⟨s, hs, h⟩ := bind_some (show (keyUp P ty).bind (fun s => (ofOperand m).bind fun m => (ofOperand k).bind fun k => (ofOperand v).map fun v => AO.mapUpdate s m k v) = some a from h)
    obtain ⟨m', hm, h⟩ := bind_some h
    obtain ⟨k', hk, h⟩ := bind_some h
    obtain ⟨v', hv, rfl⟩ := map_some h
    rcases keyUp_some hs with ⟨kt, el, d, h1, h2, h3⟩ | ⟨kt, el, fs, n, h1, h2, h3, rfl⟩
    · exact .inr (.inr ⟨rfl, rfl, (by intro h; cases h), fun base ρ S e w t c z he hw hc => s_mapUpdate (.inl rfl) h1 h2 h3 hm hk hv he hw hc⟩)
    · exact .inr (.inr ⟨rfl, rfl, (by intro h; cases h), fun base ρ S e w t c z he hw hc => s_mapFresh (.inl rfl) h1 h2 h3 hm hk hv he hw hc⟩)
  | insert ty m k v =>
    obtain ⟨s, hs, h⟩ := bind_some (show (keyUp P ty).bind (fun s => (ofOperand m).bind fun m => (ofOperand k).bind fun k => (ofOperand v).map fun v => AO.mapUpdate s m k v) = some a from h)
    obtain ⟨m', hm, h⟩ := bind_some h
    obtain ⟨k', hk, h⟩ := bind_some h
    obtain ⟨v', hv, rfl⟩ := map_some h
    rcases keyUp_some hs with ⟨kt, el, d, h1, h2, h3⟩ | ⟨kt, el, fs, n, h1, h2, h3, rfl⟩
    · exact .inr (.inr ⟨rfl, rfl, (by intro h; cases h), fun base ρ S e w t c z he hw hc => s_mapUpdate (.inr rfl) h1 h2 h3 hm hk hv he hw hc⟩)
    · exact .inr (.inr ⟨rfl, rfl, (by intro h; cases h), fun base ρ S e w t c z he hw hc => s_mapFresh (.inr rfl) h1 h2 h3 hm hk hv he hw hc⟩)
  | extract x i =>
    obtain ⟨y, hy, rfl⟩ := map_some (show (ofOperand x).map (fun x => AO.extract x i) = some a from h)
    exact .inl ⟨rfl, fun base ρ S e w t c z he hw hc => s_extract rfl hy he hw hc⟩
  | call cl =>
    obtain ⟨callee, args, ats⟩ := cl
    cases callee with
    | builtin b => exact sound_call h
    | value f =>
      have hc : isCall a = true := by
        cases f with
        | func f => obtain ⟨_, _, rfl⟩ := map_some (show (ofOperands args.toList).map (fun a => AO.call f a) = some a from h); rfl
        | tmp q =>
          obtain ⟨_, _, h⟩ := bind_some (show (ofOperand (.tmp q)).bind (fun f => (ofOperands args.toList).map fun a => AO.dyn f a) = some a from h)
          obtain ⟨_, _, rfl⟩ := map_some h
          rfl
        | const q =>
          obtain ⟨_, _, h⟩ := bind_some (show (ofOperand (.const q)).bind (fun f => (ofOperands args.toList).map fun a => AO.dyn f a) = some a from h)
          obtain ⟨_, _, rfl⟩ := map_some h
          rfl
        | global q =>
          obtain ⟨_, _, h⟩ := bind_some (show (ofOperand (.global q)).bind (fun f => (ofOperands args.toList).map fun a => AO.dyn f a) = some a from h)
          obtain ⟨_, _, rfl⟩ := map_some h
          rfl
      exact sound_callee hc trivial
    | invoke x name =>
      have hc : isCall a = true := by
        obtain ⟨_, _, h⟩ := bind_some (show (ofOperand x).bind (fun x => (ofOperands args.toList).map fun a => .invoke x (methFn P name) a) = some a from h)
        obtain ⟨_, _, rfl⟩ := map_some h
        rfl
      exact sound_callee hc trivial
  | defer cl =>
    obtain ⟨callee, args, ats⟩ := cl
    cases callee with
    | value f =>
      have hc : isCall a = true := by
        obtain ⟨_, _, h⟩ := bind_some (show (ofOperand f).bind (fun f => (ofOperands args.toList).map fun a => .defer f a) = some a from h)
        obtain ⟨_, _, rfl⟩ := map_some h
        rfl
      exact sound_callee hc trivial
    | _ => cases h
  | range ty x =>
    cases hu : P.underlying ty with
    | none => simp [compOp?, hu] at h
    | some d =>
      cases d <;> simp only [compOp?, hu] at h <;> try (cases h; done)
      obtain ⟨y, hy, rfl⟩ := map_some h
      exact .inr (.inr ⟨rfl, rfl, (by intro h; cases h), fun base ρ S e w t c z he hw hc => s_mrange rfl hu hy he hw hc⟩)
  | entry x =>
    obtain ⟨y, hy, rfl⟩ := map_some (show (ofOperand x).map AO.mentry = some a from h)
    exact .inl ⟨rfl, fun base ρ S e w t c z he hw hc => s_mentry rfl hy he hw hc⟩
  | next x s =>
    cases s with
    | true => cases h
    | false =>
      obtain ⟨y, hy, rfl⟩ := map_some (show (ofOperand x).map AO.mnext = some a from h)
      exact sound_callee rfl trivial
  | _ => cases h
end Go.Proofs.YtgpbcnagaelhiaaGreat.Exe
namespace Go.Proofs.YtgpbcnagaelhiaaGreat.Exe
open Go
variable {base : Base} {w : World} {P : Program} {ρ : Rho} {S : AS} {t : T} {o : Oper} {c : K} {z : AV × Option AS} {a : Act}

/-! ### Calls, as hypotheses -/
/-- A fence that lets all in; 'ro': of a round. -/
def FW (ro : Option Nat) : Fence := { Fence.wide with round := ro }
/-- What a call must show. -/
def CEOK (P : Program) (ρ : Rho) : CE → List Value → World → (Ending → World → Prop) → Prop
  | .fn g, us, w, R => CallsIn (FW none) 0 P g us.toArray w R ∧ ∃ fn, P.funcs[g]? = some fn ∧ fn.body.isNone = false
  | .dfn g, us, w, R => (∀ u, CallsDIn (FW none) 0 P g us.toArray u w fun e u' w' => u' = u ∧ R e w') ∧ ∃ fn, P.funcs[g]? = some fn ∧ fn.body.isNone = false
  | .xfn g, us, w, R => (CallsIn (FW none) 0 P g us.toArray w R ∧ ∃ fn, P.funcs[g]? = some fn ∧ fn.body.isNone = false) ∨ ∃ u w', (callFunc g us.toArray).run P w = .ok (.value u) w' ∧ R (.returned u) w'
  | .nx, us, w, R => ∃ u w', (∀ ty, (Instr.next (us.headD undef) false ty).run P w = .ok u w') ∧ R (.returned u) w'
  | .yl l, us, w, R => ∀ r x, ρ l = some (r, x) → ∃ f tmps a b, (Instr.yield r us.toArray).run P w = .ok (.round r f tmps a b) w ∧ RoundIn (FW none) 0 P r f tmps a b w R
def ClOK (P : Program) (cl : Cl) : Prop :=
  ∀ (base : Base) (ρ : Rho) (S : AS) (w : World) (e : CE) (args : List AV) (us : List Value) (k : K) (z : AV × Option AS) (R : Ending → World → Prop), WRel base ρ S w → DenL ρ args us → cl e args S k = some z →
    (∀ v S' ρ' w' u, k v S' = some z → ρ.le ρ' → Keep ρ ρ' S S' → WRel base ρ' S' w' → Den ρ' v u → R (.returned u) w') →
    CEOK P ρ e us w R

/-- The calls that were put off. -/
inductive DfRel (ρ : Rho) : List AV → List Deferred → Prop where
  | nil : DfRel ρ [] []
  | fn {g : FuncId} {as l : List AV} {us : List Value} {ds : List Deferred} {dargs cap : Array Value} : DenL ρ as us → dargs ++ cap = us.toArray → DfRel ρ l ds → DfRel ρ (.fn g as [] :: l) ({ target := .fn (.func g) cap, args := dargs } :: ds)
  | mark {b r x : Nat} {l : List AV} {ds : List Deferred} : ρ b = some (r, x) → DfRel ρ l ds → DfRel ρ (.map b :: l) ({ target := .collected r, args := #[] } :: ds)
theorem DfRel.mono {ρ σ : Rho} (h : ρ.le σ) : ∀ {l : List AV} {ds : List Deferred}, DfRel ρ l ds → DfRel σ l ds
  | _, _, .nil => .nil
  | _, _, .fn a b c => .fn (a.mono h) b (c.mono h)
  | _, _, .mark a b => .mark (h _ _ a) (b.mono h)

structure RelA (base : Base) (ρ : Rho) (S : AS) (w : World) (t : T) (a : Act) (N : Nat) : Prop where
  world : WRel base ρ S w
  tmps : TRel ρ t a
  defers : DfRel ρ t.off a.defers
  size : a.tmps.size = N
theorem off_putT (d : Option (List D4)) (v : AV) (t : T) : (putT d v t).off = t.off := by
  cases d with
  | none => rfl
  | some p => exact off_setP v p t

/-! ### Is it wanted? -/
theorem wantV_some {v : AV} {b : Bool} {k : Bool → R} (h : wantV v b k = some z) : (∃ x, v = .bool x ∧ k (x == b) = some z) ∨ (∃ vs, v = .tup vs ∧ k false = some z) := by
  cases v <;> first | (cases h; done) | skip
  · rename_i x
    refine .inl ⟨x, rfl, ?_⟩
    have h : k (ifB b x (ifB x false true)) = some z := h
    rw [← h]
    cases b <;> cases x <;> rfl
  · exact .inr ⟨_, rfl, h⟩

theorem wantC_some {ops : Array Oper} {g : Option (Nat × Bool)} {k : Bool → R} (hg : o.guard = g) (ht : ∀ n, (∃ j b, g = some (j, b) ∧ ((ops[j]?).bind (·.dst)) = some n) → Den ρ (evTmp (pathOf n) t) (a.tmps.getD n undef))
    (h : wantC (g.map fun (j, b) => (((ops[j]?).bind (·.dst)).map pathOf, b)) t k = some z) : k (Region.wanted o (yielded ops a.tmps)) = some z := by
  unfold Region.wanted
  cases g with
  | none => rw [hg]; exact h
  | some p =>
    obtain ⟨j, b⟩ := p
    rw [hg]
    show k (yielded ops a.tmps j == some b) = some z
    cases hd : (ops[j]?).bind (·.dst) with
    | none =>
      have h : wantC (some (((ops[j]?).bind (·.dst)).map pathOf, b)) t k = some z := h
      rw [hd] at h
      have hy : yielded ops a.tmps j = none := by unfold yielded; rw [hd]; rfl
      rw [hy]
      exact h
    | some n =>
      have h : wantC (some (((ops[j]?).bind (·.dst)).map pathOf, b)) t k = some z := h
      rw [hd] at h
      have h : wantV (evTmp (pathOf n) t) b k = some z := h
      have hden := ht n ⟨j, b, rfl, hd⟩
      rcases wantV_some h with ⟨x, hv, h⟩ | ⟨vs, hv, h⟩
      · rw [hv] at hden
        generalize hu : a.tmps.getD n undef = u at hden
        cases hden
        have hy : yielded ops a.tmps j = some x := by
          unfold yielded
          rw [hd]
          rw [Array.getD_eq_getD_getElem?] at hu
          cases h' : a.tmps[n]? with
          | none => rw [h'] at hu; cases hu
          | some y => rw [h'] at hu; have : y = .bool x := hu; subst this; simp [h']
        rw [hy, ← h]
        rfl
      · rw [hv] at hden
        generalize hu : a.tmps.getD n undef = u at hden
        cases hden with
        | @tup _ us hl =>
        have hy : yielded ops a.tmps j = none := by
          unfold yielded
          rw [hd]
          rw [Array.getD_eq_getD_getElem?] at hu
          cases h' : a.tmps[n]? with
          | none => simp [h']
          | some y => rw [h'] at hu; have : y = .tuple us.toArray := hu; subst this; simp [h']
        rw [hy]
        exact h

theorem compOper_guard (ops : Array Oper) (o : Oper) : (compOper P ops o).guard = o.guard.map fun (j, b) => (((ops[j]?).bind (·.dst)).map pathOf, b) := rfl

/-! ### One operation carried out -/
theorem putT_rel (h : TRel ρ t a) {v : AV} {u : Value} (hv : Den ρ v u) (d : Option Nat) (hd : ∀ n, d = some n → n < a.tmps.size) : TRel ρ (putT (d.map pathOf) v t) (a.put d u) := by
  cases d with
  | none => exact h
  | some n => exact h.put hv n (hd n rfl)
theorem put_size (a : Act) (d : Option Nat) (u : Value) : (a.put d u).tmps.size = a.tmps.size := by
  cases d with
  | none => rfl
  | some n => show (a.tmps.setIfInBounds n u).size = _; simp
theorem put_defers (a : Act) (d : Option Nat) (u : Value) : (a.put d u).defers = a.defers := by cases d <;> rfl

/-- What holds behind an operation. -/
def Goes (base : Base) (ρ : Rho) (S : AS) (o : Oper) (a : Act) (k : K) (z : AV × Option AS) (next : Act → World → Prop) : Prop :=
  ∀ v S' ρ' w' u, k v S' = some z → ρ.le ρ' → Keep ρ ρ' S S' → WRel base ρ' S' w' → Den ρ' v u → next (a.put o.dst u) w'

theorem post_wp {next : Act → World → Prop} {Q : Exit → Act → World → Prop} {ro : Option Nat} (hd : ∀ c, o.op ≠ .defer c) (hp : OpPost base P ρ S a.eval o w c z) (hn : Goes base ρ S o a c z next) : o.wpIn (FW ro) 0 P a w next Q := by
  obtain ⟨v, S', ρ', w', u, h1, h2, h3, h4, h5, h6⟩ := hp
  unfold Oper.wpIn
  refine ⟨fun _ _ => trivial, ?_⟩
  rw [Oper.semAt_eq _ _ _ hd]
  rcases h6 with h6 | ⟨h6, rfl⟩
  · rw [h6]; exact hn v S' ρ' w' u h1 h2 h3 h4 h5
  · rw [h6]; exact hn v S' ρ' w' undef h1 h2 h3 h4 h5
theorem plain_wp {x : AO} {next : Act → World → Prop} {Q : Exit → Act → World → Prop} {ro : Option Nat} (hd : ∀ c, o.op ≠ .defer c) (hs : Sound P o x) (he : EvRel ρ t a.eval) (hw : WRel base ρ S w) (h : opK x t S c = some z) (hn : Goes base ρ S o a c z next) : o.wpIn (FW ro) 0 P a w next Q :=
  post_wp hd (hs.post he hw h) hn

theorem stepC_plain {x : AO} {cl : Cl} (h : isCall x = false) : stepC x cl t S c = opK x t S c := by
  cases x <;> first | rfl | cases h

theorem names_call {g : FuncId} {fn : Func} {args : Array Value} (hf : P.funcs[g]? = some fn) (hn : (fn.name == "runtime.NumGoroutine") = false) (hb : fn.body.isNone = false) (w : World) : (callFunc g args).run P w = .ok (.enter g args) w := by
  have hn' : ¬ fn.name = "runtime.NumGoroutine" := by simpa using hn
  have hb' : ¬ fn.body = none := by intro e; rw [e] at hb; cases hb
  simp [callFunc, hf, hn', hb']

theorem method_wp {ty : TypeId} {name : String} {g : FuncId} {v : Value} {k : Nat} (h : methFn P name ty = some g) (w : World) : (method (k + 1) ty v name).run P w = .ok (g, v) w := by
  unfold methFn at h
  obtain ⟨i, hi, h⟩ := bind_some h
  obtain ⟨m, hm, h⟩ := bind_some h
  split at h
  · rename_i f el h1 h2 h3
    cases h
    unfold method
    simp [typeInfo, hi, hm, h1, h2, follow, receiverAt, run_underlying h3, Place.get]
  · cases h

/-- A call's post. -/
def postOf (o : Oper) (a : Act) (next : Act → World → Prop) (Q : Exit → Act → World → Prop) : Ending → World → Prop
  | .returned v, w'' => next (a.put o.dst v) w''
  | .panicked chain, w'' => Q (.panic chain) a w''
  | .outgrown, _ => LetsOut Q
theorem enter_wp {g : FuncId} {us : List Value} {next : Act → World → Prop} {Q : Exit → Act → World → Prop} {ro : Option Nat} (hd : ∀ c, o.op ≠ .defer c) (hr : (execOp a.eval o).run P w = .ok (.enter g us.toArray) w) (hc : CallsIn (FW none) 0 P g us.toArray w (postOf o a next Q)) : o.wpIn (FW ro) 0 P a w next Q := by
  unfold Oper.wpIn
  refine ⟨fun _ _ => trivial, ?_⟩
  rw [Oper.semAt_eq _ _ _ hd, hr, Oper.uponIn_enter]
  refine ⟨fun h => (by cases h), CallsIn.mono (F := FW none) (n := 0) hc fun e w h => ?_⟩
  cases e <;> exact h
theorem round_wp {r : Nat} {f : FuncId} {tmps : Array Value} {x y : Code} {next : Act → World → Prop} {Q : Exit → Act → World → Prop} {ro : Option Nat} (hd : ∀ c, o.op ≠ .defer c) (hr : (execOp a.eval o).run P w = .ok (.round r f tmps x y) w) (hc : RoundIn (FW none) 0 P r f tmps x y w (postOf o a next Q)) : o.wpIn (FW ro) 0 P a w next Q := by
  unfold Oper.wpIn
  refine ⟨fun _ _ => trivial, ?_⟩
  rw [Oper.semAt_eq _ _ _ hd, hr, Oper.uponIn_round]
  refine ⟨fun h => (by cases h), RoundIn.mono (F := FW none) (n := 0) hc fun e w h => ?_⟩
  cases e <;> exact h

theorem DenL.append {ρ : Rho} : ∀ {x : List AV} {u : List Value} {y : List AV} {v : List Value}, DenL ρ x u → DenL ρ y v → DenL ρ (x ++ y) (u ++ v)
  | _, _, _, _, .nil, h => h
  | _, _, _, _, .cons a b, h => .cons a (b.append h)

theorem sound_callOp {x : AO} {cl : Cl} {next : Act → World → Prop} {Q : Exit → Act → World → Prop} {ro : Option Nat} (hN : ∀ (g : FuncId) (fn : Func), P.funcs[g]? = some fn → (fn.name == "runtime.NumGoroutine") = false) (hcl : ClOK P cl) (hx : compOp? P o = some x) (hcall : isCall x = true) (he : EvRel ρ t a.eval) (hw : WRel base ρ S w)
    (h : stepC x cl t S c = some z) (hn : Goes base ρ S o a c z next) : o.wpIn (FW ro) 0 P a w next Q := by
  have post : ∀ (g : FuncId) (args : List AV) (us : List Value), DenL ρ args us → cl (.xfn g) args S c = some z → (∀ c, o.op ≠ .defer c) → (execOp a.eval o).run P w = (callFunc g us.toArray).run P w → o.wpIn (FW ro) 0 P a w next Q := by
    intro g args us hl hc hd hr
    rcases hcl base ρ S w (.xfn g) args us c z (postOf o a next Q) hw hl hc (fun v S' ρ' w' u h1 h2 h3 h4 h5 => hn v S' ρ' w' u h1 h2 h3 h4 h5) with ⟨hcalls, fn, hf, hb⟩ | ⟨u, w', hrun, hpost⟩
    · exact enter_wp hd (hr.trans (names_call hf (hN g fn hf) hb w)) hcalls
    · unfold Oper.wpIn
      refine ⟨fun _ _ => trivial, ?_⟩
      rw [Oper.semAt_eq _ _ _ hd, hr, hrun]
      exact hpost
  obtain ⟨dst, op, type, pos, after, guard⟩ := o
  cases op with
  | call cc =>
    obtain ⟨callee, args, ats⟩ := cc
    cases callee with
    | builtin b =>
      exfalso
      rcases sound_call hx with ⟨h1, _⟩ | ⟨_, h1, _⟩ | ⟨_, _, h1, _⟩
      · exact absurd ((isCall_class hcall).1.symm.trans h1) (by simp)
      · exact absurd ((isCall_class hcall).2.symm.trans h1) (by simp)
      · exact h1 hcall
    | value f =>
      have dync : ∀ (x' : AR) (as : List AR), ofOperand f = some x' → ofOperands args.toList = some as → cDyn x' as cl t S c = some z → Oper.wpIn (FW ro) 0 P { dst, op := .call { callee := .value f, args, argTypes := ats }, type, pos, after, guard } a w next Q := by
        intro x' as hf has h
        have hd := he f x' hf
        rcases ifB_or (show ifB (isYl (ev x' t)) (onYl (ev x' t) fun l => cl (.yl l) (evs as t) S c) (onFn (ev x' t) fun g a b => cl (.xfn g) (List.append a (List.append (evs as t) b)) S c) = some z from h) with ⟨_, h⟩ | ⟨_, h⟩
        · obtain ⟨l, hv, h⟩ := onYl_some h
          rw [hv] at hd
          generalize hef : a.eval f = vf at hd
          cases hd with
          | @yl _ r y hρ =>
            obtain ⟨fi, tmps, x, y, hy, hround⟩ := hcl base ρ S w (.yl l) _ _ c z (postOf { dst, op := .call { callee := .value f, args, argTypes := ats }, type, pos, after, guard } a next Q) hw (evs_rel has he) h (fun v S' ρ' w' u h1 h2 h3 h4 h5 => hn v S' ρ' w' u h1 h2 h3 h4 h5) _ _ hρ
            refine round_wp (fun _ h => by cases h) ?_ hround
            rw [← hy]
            simp [execOp, resolve, hef, Deferred.ofValue, invoke]
            congr 1
            apply congrArg (Instr.yield r)
            apply Array.toList_inj.1
            simp
        obtain ⟨g, fi, ca, hv, h⟩ := onFn_some h
        rw [hv] at hd
        generalize hef : a.eval f = vf at hd
        cases hd with
        | @fn _ _ _ fi' ca' h1 h2 =>
          have hl := evs_rel has he
          refine post g _ _ (h1.append (hl.append h2)) h (fun _ h => by cases h) ?_
          simp [execOp, resolve, hef, Deferred.ofValue, invoke]
          congr 1
          apply congrArg (callFunc g)
          apply Array.toList_inj.1
          simp
      cases f with
      | func g =>
        obtain ⟨as, has, rfl⟩ := map_some (show (ofOperands args.toList).map (fun a => AO.call g a) = some x from hx)
        refine post g _ _ (evs_rel has he) h (fun _ h => by cases h) ?_
        simp [execOp, resolve, Deferred.ofValue, invoke, Act.eval]
        congr 1
        apply congrArg (callFunc g)
        apply Array.toList_inj.1
        simp
      | tmp q =>
        obtain ⟨x', hf, h1⟩ := bind_some (show (ofOperand (.tmp q)).bind (fun f => (ofOperands args.toList).map fun a => AO.dyn f a) = some x from hx)
        obtain ⟨as, has, rfl⟩ := map_some h1
        exact dync x' as hf has h
      | const q =>
        obtain ⟨x', hf, h1⟩ := bind_some (show (ofOperand (.const q)).bind (fun f => (ofOperands args.toList).map fun a => AO.dyn f a) = some x from hx)
        obtain ⟨as, has, rfl⟩ := map_some h1
        exact dync x' as hf has h
      | global q =>
        obtain ⟨x', hf, h1⟩ := bind_some (show (ofOperand (.global q)).bind (fun f => (ofOperands args.toList).map fun a => AO.dyn f a) = some x from hx)
        cases hf
    | invoke rx name =>
      obtain ⟨x', hf, h1⟩ := bind_some (show (ofOperand rx).bind (fun x => (ofOperands args.toList).map fun a => AO.invoke x (methFn P name) a) = some x from hx)
      obtain ⟨as, has, rfl⟩ := map_some h1
      obtain ⟨ty, v, hv, h⟩ := onIfc_some (show onIfc (ev x' t) _ = some z from h)
      obtain ⟨g, hg, h⟩ := onSome_some h
      have hd := he rx x' hf
      rw [hv] at hd
      generalize hef : a.eval rx = vf at hd
      cases hd with
      | @ifc _ _ v' h1 =>
        refine post g _ _ (.cons h1 (evs_rel has he)) h (fun _ h => by cases h) ?_
        have hm : 0 < Made.depth := by decide
        obtain ⟨k, hk⟩ : ∃ k, P.types.size + Made.depth = k + 1 := ⟨P.types.size + Made.depth - 1, by omega⟩
        have e0 : (#[Value.iface ty v'] ++ args.map a.eval)[0]? = some (.iface ty v') := by
          rw [Array.getElem?_append_left (by simp)]; rfl
        have e1 : (#[Value.iface ty v'] ++ args.map a.eval).extract 1 (#[Value.iface ty v'] ++ args.map a.eval).size = args.map a.eval := by
          apply Array.toList_inj.1
          simp [List.extract]
          exact List.take_of_length_le (by simp)
        have e2 : (invoke (.fn (.method name) #[]) (#[Value.iface ty v'] ++ args.map a.eval)).run P w = (callMethod (.iface ty v') name (args.map a.eval)).run P w := by
          simp only [invoke, e0, e1]
        have e3 : (execOp a.eval { dst, op := .call { callee := .invoke rx name, args, argTypes := ats }, type, pos, after, guard }).run P w = (invoke (.fn (.method name) #[]) (#[Value.iface ty v'] ++ args.map a.eval)).run P w := by
          simp [execOp, resolve, hef]
        rw [e3, e2]
        simp [callMethod, hk, method_wp hg]
        congr 1
        apply congrArg (callFunc g)
        apply Array.toList_inj.1
        simp
  | defer cc =>
    obtain ⟨callee, args, ats⟩ := cc
    cases callee with
    | value f =>
      obtain ⟨x', hf, h1⟩ := bind_some (show (ofOperand f).bind (fun f => (ofOperands args.toList).map fun a => AO.defer f a) = some x from hx)
      obtain ⟨as, has, rfl⟩ := map_some h1
      cases h
    | _ => cases hx
  | next x s =>
    cases s with
    | true => cases hx
    | false =>
      obtain ⟨x', hf, rfl⟩ := map_some (show (ofOperand x).map AO.mnext = some _ from hx)
      obtain ⟨u, w', hrun, hpost⟩ := hcl base ρ S w .nx [ev x' t] [a.eval x] c z (postOf { dst, op := .next x false, type, pos, after, guard } a next Q) hw (.cons (he x x' hf) .nil) h (fun v S' ρ' w' u h1 h2 h3 h4 h5 => hn v S' ρ' w' u h1 h2 h3 h4 h5)
      have hrun' : ∀ ty, (Instr.next (a.eval x) false ty).run P w = .ok u w' := hrun
      unfold Oper.wpIn
      refine ⟨fun _ _ => trivial, ?_⟩
      rw [Oper.semAt_eq _ _ _ (fun _ h => by cases h)]
      have e1 : (execOp a.eval { dst, op := .next x false, type, pos, after, guard }).run P w = .ok (.value u) w' := by simp [execOp, hrun']
      rw [e1]
      exact hpost
  | _ =>
    exfalso
    rcases sound_of hx with ⟨h1, _⟩ | ⟨_, h1, _⟩ | ⟨_, _, h1, _⟩
    · exact absurd ((isCall_class hcall).1.symm.trans h1) (by simp)
    · exact absurd ((isCall_class hcall).2.symm.trans h1) (by simp)
    · exact h1 hcall
end Go.Proofs.YtgpbcnagaelhiaaGreat.Exe
namespace Go.Proofs.YtgpbcnagaelhiaaGreat.Exe
open Go
variable {base : Base} {w : World} {P : Program} {ρ : Rho} {S : AS} {t : T} {o : Oper} {c : K} {z : AV × Option AS} {a : Act}

def NamesOk (P : Program) : Prop := ∀ (g : FuncId) (fn : Func), P.funcs[g]? = some fn → (fn.name == "runtime.NumGoroutine") = false

theorem stepC_none {cl : Cl} : stepC AO.none cl t S c = none := rfl
theorem compOp_some {cl : Cl} (h : stepC (compOp P o) cl t S c = some z) : compOp? P o = some (compOp P o) := by
  unfold compOp at h ⊢
  cases hc : compOp? P o with
  | none => rw [hc] at h; cases h
  | some x => rfl

theorem not_defer {x : AO} (hx : compOp? P o = some x) (hc : isCall x = false) : ∀ c, o.op ≠ .defer c := fun c e => by
  obtain ⟨dst, op, type, pos, after, guard⟩ := o
  subst e
  obtain ⟨callee, args, ats⟩ := c
  cases callee with
  | value f =>
    obtain ⟨x', _, h1⟩ := bind_some (show (ofOperand f).bind (fun f => (ofOperands args.toList).map fun a => AO.defer f a) = some x from hx)
    obtain ⟨_, _, rfl⟩ := map_some h1
    cases hc
  | _ => cases hx
theorem value_wp {next : Act → World → Prop} {Q : Exit → Act → World → Prop} {ro : Option Nat} {u : Value} {w' : World} (hd : ∀ c, o.op ≠ .defer c) (hr : (execOp a.eval o).run P w = .ok (.value u) w') (hn : next (a.put o.dst u) w') : o.wpIn (FW ro) 0 P a w next Q := by
  unfold Oper.wpIn
  refine ⟨fun _ _ => trivial, ?_⟩
  rw [Oper.semAt_eq _ _ _ hd, hr]
  exact hn
theorem class_call {x : AO} (h : isVal x = true ∨ isMk x = true) : isCall x = false := by
  cases hc : isCall x with
  | false => rfl
  | true =>
    obtain ⟨h1, h2⟩ := isCall_class hc
    rcases h with h | h
    · rw [h1] at h; cases h
    · rw [h2] at h; cases h
theorem gen_wp {cl : Cl} {next : Act → World → Prop} {Q : Exit → Act → World → Prop} {ro : Option Nat} (hN : NamesOk P) (hcl : ClOK P cl) (he : EvRel ρ t a.eval) (hw : WRel base ρ S w)
    (h : stepC (compOp P o) cl t S c = some z) (hn : Goes base ρ S o a c z next) : o.wpIn (FW ro) 0 P a w next Q := by
  have hx := compOp_some h
  cases hc : isCall (compOp P o) with
  | true => exact sound_callOp hN hcl hx hc he hw h hn
  | false =>
    rw [stepC_plain hc] at h
    exact plain_wp (not_defer hx hc) (sound_of hx) he hw h hn

theorem compL_cons (x : AOp) (hx : ∀ f as, x.op ≠ .defer f as) (r : List AOp) (cl : Cl) (t : T) (S : AS) (k : KL) : runL (compL (x :: r)) cl t S k =
    wantC x.guard t fun b => ifB b (stepC x.op cl t S fun v S => runL (compL r) cl (putT x.dst v t) S k) (runL (compL r) cl (putT x.dst (.tup []) t) S k) := by
  obtain ⟨dst, op, guard⟩ := x
  have e1 : ∀ d, isCall op = true → compL ({ dst := d, op, guard := none } :: r) = .gen { dst := d, op, guard := none } (compL r) := fun d hc => by
    cases d <;> cases op <;> first | rfl | (cases hc; done) | exact absurd rfl (hx _ _)
  have e2 : ∀ p, isCall op = false → compL ({ dst := some p, op, guard := none } :: r) = .op p op (compL r) := fun p hc => by
    cases op <;> first | rfl | (cases hc; done)
  have e3 : ∀ g, compL ({ dst, op, guard := some g } :: r) = .gen { dst, op, guard := some g } (compL r) := fun g => by
    cases op <;> first | (cases dst <;> rfl) | exact absurd rfl (hx _ _)
  have e4 : compL ({ dst := none, op, guard := none } :: r) = .gen { dst := none, op, guard := none } (compL r) := by
    cases op <;> first | rfl | exact absurd rfl (hx _ _)
  cases guard with
  | some g => rw [e3]; exact lGen_eq _ (compL r) _ _ _ _ _
  | none =>
    cases dst with
    | none => rw [e4]; exact lGen_eq _ (compL r) _ _ _ _ _
    | some p =>
      cases hc : isCall op with
      | true => rw [e1 _ hc]; exact lGen_eq _ (compL r) _ _ _ _ _
      | false =>
        rw [e2 _ hc]
        refine (lOp_eq _ _ (compL r) _ _ _ _ _).trans ?_
        show opK op t S (fun v S => runL (compL r) cl (T.setP v p t) S k) = stepC op cl t S fun v S => runL (compL r) cl (putT (some p) v t) S k
        rw [stepC_plain hc]
        rfl
theorem compL_dfr (dst : Option (List D4)) (f : AR) (as : List AR) (guard : Option (Option (List D4) × Bool)) (r : List AOp) (cl : Cl) (t : T) (S : AS) (k : KL) : runL (compL ({ dst, op := .defer f as, guard } :: r)) cl t S k =
    wantC guard t fun b => ifB b (onFn (ev f t) fun g a b => runL (compL r) cl ((putT dst (.tup []) t).push (.fn g (List.append a (List.append (evs as t) b)) [])) S k) (runL (compL r) cl (putT dst (.tup []) t) S k) := rfl
/-- A call put off. -/
theorem defer_wp {f : Operand} {args : Array Operand} {ats : Array TypeId} {next : Act → World → Prop} {Q : Exit → Act → World → Prop} (ho : o.op = .defer { callee := .value f, args, argTypes := ats }) {g : FuncId} {fi ca : List Value} (hf : a.eval f = .func (.func g) fi.toArray ca.toArray)
    (hn : next ({ a with defers := { target := .fn (.func g) ca.toArray, args := fi.toArray ++ args.map a.eval } :: a.defers }.put o.dst undef) w) : o.wpIn (FW none) 0 P a w next Q := by
  unfold Oper.wpIn
  refine ⟨fun _ _ => trivial, ?_⟩
  have : (o.semAt (FW none).round a.eval).run P w = .ok (.defer { target := .fn (.func g) ca.toArray, args := fi.toArray ++ args.map a.eval }) w := by
    show (execOp a.eval o).run P w = _
    simp [execOp, ho, resolve, hf, Deferred.ofValue]
  rw [this]
  exact hn

/-- What a region's end must meet. -/
def Ends (base : Base) (ρ : Rho) (S : AS) (k : KL) (z : AV × Option AS) (N : Nat) (q : Act → World → Prop) : Prop :=
  ∀ t' S' ρ' a' w', k t' S' = some z → ρ.le ρ' → Keep ρ ρ' S S' → RelA base ρ' S' w' t' a' N → q a' w'
theorem Ends.step {k : KL} {N : Nat} {q : Act → World → Prop} (h : Ends base ρ S k z N q) {ρ' : Rho} {S' : AS} (hl : ρ.le ρ') (hk : Keep ρ ρ' S S') : Ends base ρ' S' k z N q :=
  fun t' S'' ρ'' a' w' h1 h2 h3 h4 => h t' S'' ρ'' a' w' h1 (Rho.le_trans hl h2) (hk.trans h3) h4

theorem dstsOk_at {n : Nat} {ops : Array Oper} (h : dstsOk n ops = true) {i : Nat} {o : Oper} (ho : ops[i]? = some o) : ∀ d, o.dst = some d → d < n := by
  intro d hd
  have := List.all_eq_true.1 h o (by
    have : o ∈ ops := Array.mem_of_getElem? ho
    simpa using this)
  rw [hd] at this
  exact ble_true this

theorem off_push (v : AV) (t : T) : (t.push v).off = v :: t.off := rfl
theorem TRel.push (h : TRel ρ t a) (v : AV) : TRel ρ (t.push v) a := fun n => by rw [evTmp_push]; exact h n
theorem plain_region {cl : Cl} {Q : Exit → Act → World → Prop} {ops : Array Oper} {N : Nat} {k : KL} {ro : Option Nat} (hN : NamesOk P) (hcl : ClOK P cl) (hd : dstsOk N ops = true) (hro : ro = none ∨ noDefer ops = true) :
    ∀ (l : List Oper) (i : Nat) (ρ : Rho) (S : AS) (w : World) (t : T) (a : Act), ops.toList.drop i = l → RelA base ρ S w t a N → runL (compL (l.map (compOper P ops))) cl t S k = some z → Ends base ρ S k z N (Q .normal) →
      wpOpsIn (FW ro) 0 P ops Q (List.range' i l.length) a w
  | [], i, ρ, S, w, t, a, hl, hr, h, hq => hq t S ρ a w h ρ.le_refl (.refl ρ S) hr
  | o :: l, i, ρ, S, w, t, a, hl, hr, h, hq => by
    have ho : ops[i]? = some o := by
      have : (ops.toList.drop i)[0]? = some o := by rw [hl]; rfl
      rw [List.getElem?_drop] at this
      simpa using this
    have hl' : ops.toList.drop (i + 1) = l := by rw [← List.drop_drop, hl]; rfl
    have hput : ∀ {ρ' : Rho} {v : AV} {u : Value}, TRel ρ' t a → Den ρ' v u → TRel ρ' (putT (o.dst.map pathOf) v t) (a.put o.dst u) := fun ht hv => putT_rel ht hv _ (fun n hn => by rw [hr.size]; exact dstsOk_at hd ho n hn)
    show wpOpsIn (FW ro) 0 P ops Q (i :: List.range' (i + 1) l.length) a w
    cases hdf : compOp P o with
    | defer f as =>
      rw [List.map_cons] at h
      have e1 : compOper P ops o = { dst := o.dst.map pathOf, op := .defer f as, guard := (compOper P ops o).guard } := by rw [← hdf]; rfl
      rw [e1, compL_dfr, compOper_guard] at h
      have h := wantC_some (o := o) (ops := ops) (a := a) rfl (fun n _ => hr.tmps n) h
      have hx : compOp? P o = some (.defer f as) := by
        unfold compOp at hdf
        cases hc : compOp? P o with
        | none => rw [hc] at hdf; cases hdf
        | some x => rw [hc] at hdf; exact congrArg some hdf
      have hsrc : ∃ f' args ats, o.op = .defer { callee := .value f', args, argTypes := ats } ∧ ofOperand f' = some f ∧ ofOperands args.toList = some as := by
        obtain ⟨dst, op, type, pos, after, guard⟩ := o
        have hcl : isCall (AO.defer f as) = true := rfl
        cases op with
        | defer cc =>
          obtain ⟨callee, args, ats⟩ := cc
          cases callee with
          | value f' =>
            obtain ⟨x', h1, h2⟩ := bind_some (show (ofOperand f').bind (fun f => (ofOperands args.toList).map fun a => AO.defer f a) = some (.defer f as) from hx)
            obtain ⟨y', h3, h4⟩ := map_some h2
            cases h4
            exact ⟨f', args, ats, rfl, h1, h3⟩
          | _ => cases hx
        | call cc =>
          exfalso
          obtain ⟨callee, args, ats⟩ := cc
          cases callee with
          | builtin b =>
            rcases sound_call hx with ⟨h1, _⟩ | ⟨_, h1, _⟩ | ⟨_, _, h1, _⟩
            · exact absurd ((isCall_class hcl).1.symm.trans h1) (by simp)
            · exact absurd ((isCall_class hcl).2.symm.trans h1) (by simp)
            · exact h1 hcl
          | value f' =>
            cases f' with
            | func g => obtain ⟨_, _, h⟩ := map_some (show (ofOperands args.toList).map (fun a => AO.call g a) = some (.defer f as) from hx); cases h
            | tmp q =>
              obtain ⟨_, _, h⟩ := bind_some (show (ofOperand (.tmp q)).bind (fun f => (ofOperands args.toList).map fun a => AO.dyn f a) = some (.defer f as) from hx)
              obtain ⟨_, _, h⟩ := map_some h
              cases h
            | const q =>
              obtain ⟨_, _, h⟩ := bind_some (show (ofOperand (.const q)).bind (fun f => (ofOperands args.toList).map fun a => AO.dyn f a) = some (.defer f as) from hx)
              obtain ⟨_, _, h⟩ := map_some h
              cases h
            | global q =>
              obtain ⟨_, h, _⟩ := bind_some (show (ofOperand (.global q)).bind (fun f => (ofOperands args.toList).map fun a => AO.dyn f a) = some (.defer f as) from hx)
              cases h
          | invoke rx name =>
            obtain ⟨_, _, h⟩ := bind_some (show (ofOperand rx).bind (fun x => (ofOperands args.toList).map fun a => AO.invoke x (methFn P name) a) = some (.defer f as) from hx)
            obtain ⟨_, _, h⟩ := map_some h
            cases h
        | next x s =>
          exfalso
          cases s with
          | true => cases hx
          | false => obtain ⟨_, _, h⟩ := map_some (show (ofOperand x).map AO.mnext = some (.defer f as) from hx); cases h
        | _ =>
          exfalso
          rcases sound_of hx with ⟨h1, _⟩ | ⟨_, h1, _⟩ | ⟨_, _, h1, _⟩
          · exact absurd ((isCall_class hcl).1.symm.trans h1) (by simp)
          · exact absurd ((isCall_class hcl).2.symm.trans h1) (by simp)
          · exact h1 hcl
      obtain ⟨f', args, ats, hop, hf, has⟩ := hsrc
      have hro' : ro = none := hro.resolve_right fun hnd => by
        have := List.all_eq_true.1 hnd o (by have : o ∈ ops := Array.mem_of_getElem? ho; simpa using this)
        rw [hop] at this
        cases this
      subst hro'
      cases hw : Region.wanted o (yielded ops a.tmps) with
      | true =>
        rw [hw] at h
        obtain ⟨g, fi, ca, hv, h⟩ := onFn_some (show onFn (ev f t) _ = some z from h)
        unfold wpOpsIn
        rw [ho]
        simp only [hw, if_true]
        have hdn := hr.tmps.ev f' f hf
        rw [hv] at hdn
        generalize hef : a.eval f' = vf at hdn
        cases hdn with
        | @fn _ _ _ fi' ca' h1 h2 =>
          refine defer_wp hop hef ?_
          refine plain_region hN hcl hd hro l (i + 1) ρ S w _ _ hl' ⟨hr.world, (show TRel ρ (putT (o.dst.map pathOf) (.tup []) t) _ from ?_).push _, ?_, ?_⟩ h hq
          · have := hput hr.tmps (.tup .nil : Den ρ (.tup []) undef)
            intro n
            have := this n
            cases hdst : o.dst with
            | none => rw [hdst] at this; exact this
            | some d => rw [hdst] at this; exact this
          · rw [off_push, off_putT, put_defers]
            refine .fn (h1.append ((evs_rel has hr.tmps.ev).append h2)) ?_ hr.defers
            apply Array.toList_inj.1
            simp
          · rw [put_size]; exact hr.size
      | false =>
        rw [hw] at h
        have h : runL (compL (l.map (compOper P ops))) cl (putT (o.dst.map pathOf) (.tup []) t) S k = some z := h
        unfold wpOpsIn
        rw [ho]
        simp only [hw, if_false, Bool.false_eq_true]
        exact ⟨fun _ _ => trivial, plain_region hN hcl hd hro l (i + 1) ρ S w _ _ hl' ⟨hr.world, hput hr.tmps (.tup .nil), by rw [put_defers, off_putT]; exact hr.defers, by rw [put_size]; exact hr.size⟩ h hq⟩
    | _ =>
      rw [List.map_cons, compL_cons _ (fun f as e => by have e : compOp P o = .defer f as := e; rw [hdf] at e; cases e), compOper_guard] at h
      have h := wantC_some (o := o) (ops := ops) (a := a) rfl (fun n _ => hr.tmps n) h
      cases hw : Region.wanted o (yielded ops a.tmps) with
      | true =>
        rw [hw] at h
        have h : stepC (compOp P o) cl t S (fun v S => runL (compL (l.map (compOper P ops))) cl (putT (o.dst.map pathOf) v t) S k) = some z := h
        unfold wpOpsIn
        rw [ho]
        simp only [hw, if_true]
        refine gen_wp hN hcl hr.tmps.ev hr.world h fun v S' ρ' w' u h1 h2 h3 h4 h5 => ?_
        exact plain_region hN hcl hd hro l (i + 1) ρ' S' w' _ _ hl' ⟨h4, hput (hr.tmps.mono h2) h5, by rw [put_defers, off_putT]; exact hr.defers.mono h2, by rw [put_size]; exact hr.size⟩ h1 (hq.step h2 h3)
      | false =>
        rw [hw] at h
        have h : runL (compL (l.map (compOper P ops))) cl (putT (o.dst.map pathOf) (.tup []) t) S k = some z := h
        unfold wpOpsIn
        rw [ho]
        simp only [hw, if_false, Bool.false_eq_true]
        exact ⟨fun _ _ => trivial, plain_region hN hcl hd hro l (i + 1) ρ S w _ _ hl' ⟨hr.world, hput hr.tmps (.tup .nil), by rw [put_defers, off_putT]; exact hr.defers, by rw [put_size]; exact hr.size⟩ h hq⟩
end Go.Proofs.YtgpbcnagaelhiaaGreat.Exe
namespace Go.Proofs.YtgpbcnagaelhiaaGreat.Exe
open Go
variable {base : Base} {w : World} {P : Program} {ρ : Rho} {S : AS} {t : T} {o : Oper} {c : K} {z : AV × Option AS} {a : Act}

/-! ### Bits -/
theorem bitN_test (i j : Nat) : (bitN i).testBit j = decide (i = j) := by unfold bitN; exact Nat.testBit_two_pow
theorem or_test (a b j : Nat) : (a ||| b).testBit j = true ↔ a.testBit j = true ∨ b.testBit j = true := by rw [Nat.testBit_or, Bool.or_eq_true]
theorem orBit_test (a i j : Nat) : (a ||| bitN i).testBit j = true ↔ a.testBit j = true ∨ i = j := by rw [or_test, bitN_test, decide_eq_true_eq]
theorem subN_test {a b : Nat} (h : subN a b = true) {j : Nat} (hj : a.testBit j = true) : b.testBit j = true := by
  have h := beq_true h
  rw [← h, Nat.testBit_and, Bool.and_eq_true] at hj
  exact hj.2
theorem zero_test (j : Nat) : (0 : Nat).testBit j = false := Nat.zero_testBit j
theorem full_test {n j : Nat} (h : j < n) : (2 ^ n - 1).testBit j = true := by rw [Nat.testBit_two_pow_sub_one]; simpa using h

/-! ### Paths -/
theorem pathOf_unpath (p : List D4) : pathOf (unpath p) = p := unpath_inj (by
  show unpath (pathF (unpath p + 1) (unpath p)) = _
  exact unpath_pathF _ _ (by omega))

/-! ### What an operation reads is all that it hangs on -/
theorem evs_congr {t t' : T} : ∀ {l : List AR}, (∀ x ∈ l, ev x t = ev x t') → evs l t = evs l t'
  | [], _ => rfl
  | x :: l, h => by
    show ev x t :: evs l t = ev x t' :: evs l t'
    rw [h x (by simp), evs_congr (l := l) fun y hy => h y (by simp [hy])]
theorem partsK_congr {t t' : T} : ∀ {l : List (Nat × Nat × AR)}, (∀ x ∈ l.map (fun p => p.2.2), ev x t = ev x t') → partsK l t = partsK l t'
  | [], _ => rfl
  | p :: l, h => by
    show (p.1, p.2.1, ev p.2.2 t) :: partsK l t = (p.1, p.2.1, ev p.2.2 t') :: partsK l t'
    rw [h p.2.2 (by simp), partsK_congr (l := l) fun y hy => h y (by simp at hy ⊢; exact .inr hy)]
theorem evO_congr {t t' : T} {x : Option AR} (h : ∀ y ∈ optL x, ev y t = ev y t') : evO x t = evO x t' := by
  cases x with
  | none => rfl
  | some y => show some (ev y t) = some (ev y t'); rw [h y (by simp [optL])]

theorem opK_congr {t t' : T} (x : AO) (h : ∀ y ∈ x.args, ev y t = ev y t') (S : AS) (c : K) : opK x t S c = opK x t' S c := by
  cases x with
  | mv x => show kMv _ _ _ _ = kMv _ _ _ _; unfold kMv; rw [h x (by simp [AO.args])]
  | pick x y1 y2 => show kPick _ _ _ _ _ _ = kPick _ _ _ _ _ _; unfold kPick; rw [h x (by simp [AO.args]), h y1 (by simp [AO.args]), h y2 (by simp [AO.args])]
  | alloc => rfl
  | box e esz x => show kBox _ _ _ _ _ _ = kBox _ _ _ _ _ _; unfold kBox; rw [h x (by simp [AO.args])]
  | build zs ps => show kBuild _ _ _ _ _ = kBuild _ _ _ _ _; unfold kBuild; rw [partsK_congr (l := ps) (fun x hx => h x (by simpa [AO.args] using hx))]
  | buildSlice e esz n zs ps => show kBuildSlice _ _ _ _ _ _ _ _ = kBuildSlice _ _ _ _ _ _ _ _; unfold kBuildSlice; rw [partsK_congr (l := ps) (fun x hx => h x (by simpa [AO.args] using hx))]
  | load g n x => show kLoad _ _ _ _ _ _ = kLoad _ _ _ _ _ _; unfold kLoad; rw [h x (by simp [AO.args])]
  | store n x y => show kStore _ _ _ _ _ _ = kStore _ _ _ _ _ _; unfold kStore; rw [h x (by simp [AO.args]), h y (by simp [AO.args])]
  | nilCheck x => show kNilCheck _ _ _ _ = kNilCheck _ _ _ _; unfold kNilCheck; rw [h x (by simp [AO.args])]
  | bin op x y => show kBin _ _ _ _ _ _ = kBin _ _ _ _ _ _; unfold kBin; rw [h x (by simp [AO.args]), h y (by simp [AO.args])]
  | eqPlain n l x y => show kEqPlain _ _ _ _ _ _ _ = kEqPlain _ _ _ _ _ _ _; unfold kEqPlain; rw [h x (by simp [AO.args]), h y (by simp [AO.args])]
  | un op x => show kUn _ _ _ _ _ = kUn _ _ _ _ _; unfold kUn; rw [h x (by simp [AO.args])]
  | toInt k x => show kToInt _ _ _ _ _ = kToInt _ _ _ _ _; unfold kToInt; rw [h x (by simp [AO.args])]
  | toBytes e x => show kToBytes _ _ _ _ _ = kToBytes _ _ _ _ _; unfold kToBytes; rw [h x (by simp [AO.args])]
  | toStr x => show kToStr _ _ _ _ = kToStr _ _ _ _; unfold kToStr; rw [h x (by simp [AO.args])]
  | mark x => show kMark _ _ _ _ = kMark _ _ _ _; unfold kMark; rw [h x (by simp [AO.args])]
  | fieldAddr n x => show kFieldAddr _ _ _ _ _ = kFieldAddr _ _ _ _ _; unfold kFieldAddr; rw [h x (by simp [AO.args])]
  | atArray l e x y => show kAtArray _ _ _ _ _ _ _ = kAtArray _ _ _ _ _ _ _; unfold kAtArray; rw [h x (by simp [AO.args]), h y (by simp [AO.args])]
  | atSlice e x y => show kAtSlice _ _ _ _ _ _ = kAtSlice _ _ _ _ _ _; unfold kAtSlice; rw [h x (by simp [AO.args]), h y (by simp [AO.args])]
  | ixArray l e g x y => show kIxArray _ _ _ _ _ _ _ _ = kIxArray _ _ _ _ _ _ _ _; unfold kIxArray; rw [h x (by simp [AO.args]), h y (by simp [AO.args])]
  | ixString x y => show kIxString _ _ _ _ _ = kIxString _ _ _ _ _; unfold kIxString; rw [h x (by simp [AO.args]), h y (by simp [AO.args])]
  | field g o n x => show kField _ _ _ _ _ _ _ = kField _ _ _ _ _ _ _; unfold kField; rw [h x (by simp [AO.args])]
  | lenConst n => rfl
  | lenOf k x => show kLenOf _ _ _ _ _ = kLenOf _ _ _ _ _; unfold kLenOf kLenAny; rw [h x (by simp [AO.args])]
  | sliceSlice e x lo hi mx =>
    show kSliceSlice _ _ _ _ _ _ _ _ = kSliceSlice _ _ _ _ _ _ _ _; unfold kSliceSlice
    rw [h x (by simp [AO.args]), evO_congr (x := lo) (fun y hy => h y (by simp [AO.args, hy])), evO_congr (x := hi) (fun y hy => h y (by simp [AO.args, hy])), evO_congr (x := mx) (fun y hy => h y (by simp [AO.args, hy]))]
  | sliceArray n e x lo hi mx =>
    show kSliceArray _ _ _ _ _ _ _ _ _ = kSliceArray _ _ _ _ _ _ _ _ _; unfold kSliceArray
    rw [h x (by simp [AO.args]), evO_congr (x := lo) (fun y hy => h y (by simp [AO.args, hy])), evO_congr (x := hi) (fun y hy => h y (by simp [AO.args, hy])), evO_congr (x := mx) (fun y hy => h y (by simp [AO.args, hy]))]
  | sliceString x lo hi =>
    show kSliceString _ _ _ _ _ _ = kSliceString _ _ _ _ _ _; unfold kSliceString
    rw [h x (by simp [AO.args]), evO_congr (x := lo) (fun y hy => h y (by simp [AO.args, hy])), evO_congr (x := hi) (fun y hy => h y (by simp [AO.args, hy]))]
  | s2ap n x => show kS2ap _ _ _ _ _ = kS2ap _ _ _ _ _; unfold kS2ap; rw [h x (by simp [AO.args])]
  | extract x i => show kExtract _ _ _ _ _ = kExtract _ _ _ _ _; unfold kExtract; rw [h x (by simp [AO.args])]
  | call => rfl
  | dyn => rfl
  | defer => rfl
  | invoke => rfl
  | append e esz b x y => show kAppend _ _ _ _ _ _ _ _ = kAppend _ _ _ _ _ _ _ _; unfold kAppend; rw [h x (by simp [AO.args]), h y (by simp [AO.args])]
  | minmax m l => show kMinmax _ _ _ _ _ = kMinmax _ _ _ _ _; unfold kMinmax; rw [evs_congr (l := l) (fun y hy => h y (by simpa [AO.args] using hy))]
  | mapUpdate s m k v => show kMapUpdate _ _ _ _ _ _ _ = kMapUpdate _ _ _ _ _ _ _; unfold kMapUpdate; rw [h m (by simp [AO.args]), h k (by simp [AO.args]), h v (by simp [AO.args])]
  | lookup s z m k ok => show kLookup _ _ _ _ _ _ _ _ = kLookup _ _ _ _ _ _ _ _; unfold kLookup; rw [h m (by simp [AO.args]), h k (by simp [AO.args])]
  | makeMap => rfl
  | makeSlice e esz b z x y => show kMakeSlice _ _ _ _ _ _ _ _ _ = kMakeSlice _ _ _ _ _ _ _ _ _; unfold kMakeSlice; rw [h x (by simp [AO.args]), h y (by simp [AO.args])]
  | makeFunc f l m => show kMakeFunc _ _ _ _ _ _ = kMakeFunc _ _ _ _ _ _; unfold kMakeFunc; rw [evs_congr (l := l) (fun y hy => h y (by simp [AO.args, hy])), evs_congr (l := m) (fun y hy => h y (by simp [AO.args, hy]))]
  | delete s m k => show kDelete _ _ _ _ _ _ = kDelete _ _ _ _ _ _; unfold kDelete; rw [h m (by simp [AO.args]), h k (by simp [AO.args])]
  | clear e z x => show kClear _ _ _ _ _ _ = kClear _ _ _ _ _ _; unfold kClear; rw [h x (by simp [AO.args])]
  | copy e x y => show kCopy _ _ _ _ _ _ = kCopy _ _ _ _ _ _; unfold kCopy; rw [h x (by simp [AO.args]), h y (by simp [AO.args])]
  | makeIface ty x => show kMakeIface _ _ _ _ _ = kMakeIface _ _ _ _ _; unfold kMakeIface; rw [h x (by simp [AO.args])]
  | eqNil k n x y => show kEqNil _ _ _ _ _ _ _ = kEqNil _ _ _ _ _ _ _; unfold kEqNil; rw [h x (by simp [AO.args]), h y (by simp [AO.args])]
  | strOp op x y => show kStrOp _ _ _ _ _ _ = kStrOp _ _ _ _ _ _; unfold kStrOp; rw [h x (by simp [AO.args]), h y (by simp [AO.args])]
  | mrange x => show kMRange _ _ _ _ = kMRange _ _ _ _; unfold kMRange; rw [h x (by simp [AO.args])]
  | mnext x => rfl
  | mentry x => show kMEntry _ _ _ _ = kMEntry _ _ _ _; unfold kMEntry; rw [h x (by simp [AO.args])]
  | eqBool n x y => show kEqBool _ _ _ _ _ _ = kEqBool _ _ _ _ _ _; unfold kEqBool; rw [h x (by simp [AO.args]), h y (by simp [AO.args])]
  | none => rfl

theorem stepC_congr {t t' : T} {cl : Cl} (x : AO) (h : ∀ y ∈ x.args, ev y t = ev y t') (S : AS) (c : K) : stepC x cl t S c = stepC x cl t' S c := by
  cases hc : isCall x with
  | false => rw [stepC_plain hc, stepC_plain hc]; exact opK_congr x h S c
  | true =>
    cases x with
    | call f l => show cCall _ _ _ _ _ _ = cCall _ _ _ _ _ _; unfold cCall; rw [evs_congr (l := l) (fun y hy => h y (by simpa [AO.args] using hy))]
    | dyn f l => show cDyn _ _ _ _ _ _ = cDyn _ _ _ _ _ _; unfold cDyn; rw [h f (by simp [AO.args]), evs_congr (l := l) (fun y hy => h y (by simp [AO.args, hy]))]
    | defer f l => rfl
    | invoke f m l => show cInvoke _ _ _ _ _ _ _ = cInvoke _ _ _ _ _ _ _; unfold cInvoke; rw [h f (by simp [AO.args]), evs_congr (l := l) (fun y hy => h y (by simp [AO.args, hy]))]
    | mnext x => show cl .nx [ev x t] S c = cl .nx [ev x t'] S c; rw [h x (by simp [AO.args])]
    | _ => cases hc

/-- Two tables that agree on what an operation looks at. -/
def Agree (x : AOp) (t t' : T) : Prop := ∀ n ∈ looksA x, evTmp (pathOf n) t = evTmp (pathOf n) t'
theorem Agree.args {x : AOp} {t t' : T} (h : Agree x t t') : ∀ y ∈ x.op.args, ev y t = ev y t' := fun y hy => by
  cases y with
  | const v => rfl
  | tmp p =>
    have := h (unpath p) (List.mem_append_left _ (List.mem_flatMap.2 ⟨_, hy, by simp [arT]⟩))
    rw [pathOf_unpath] at this
    exact this
theorem Agree.want {x : AOp} {t t' : T} (h : Agree x t t') (k : Bool → R) : wantC x.guard t k = wantC x.guard t' k := by
  obtain ⟨dst, op, g⟩ := x
  cases g with
  | none => rfl
  | some q =>
    obtain ⟨d, b⟩ := q
    cases d with
    | none => rfl
    | some p =>
      have := h (unpath p) (List.mem_append_right _ (by simp))
      rw [pathOf_unpath] at this
      show wantV (evTmp p t) b k = wantV (evTmp p t') b k
      rw [this]

theorem wantC_cases {g : Option (Option (List D4) × Bool)} {k : Bool → R} (h : wantC g t k = some z) : ∃ b, k b = some z ∧ ∀ k', wantC g t k' = k' b := by
  cases g with
  | none => exact ⟨true, h, fun _ => rfl⟩
  | some q =>
    obtain ⟨d, b⟩ := q
    cases d with
    | none => exact ⟨false, h, fun _ => rfl⟩
    | some p =>
      have h : wantV (evTmp p t) b k = some z := h
      generalize hv : evTmp p t = v at h
      have key : ∀ k', wantC (some (some p, b)) t k' = wantV v b k' := fun k' => by show wantV (evTmp p t) b k' = _; rw [hv]
      cases v <;> first | (cases h; done) | skip
      · exact ⟨_, h, fun k' => key k'⟩
      · exact ⟨false, h, fun k' => key k'⟩

/-! ### The sameness of values -/
theorem toB_true {o : Option Bool} (h : toB o = true) : o = some true := by
  cases o with
  | none => cases h
  | some b => exact congrArg some h
theorem nilNo_1 {b : AV} (h : nilNo b = 1) : b = .pnil := by cases b <;> first | rfl | (exfalso; have h9 : (0 : Nat) = 1 := h; omega) | (exfalso; have h9 : (2 : Nat) = 1 := h; omega) | (exfalso; have h9 : (3 : Nat) = 1 := h; omega) | (exfalso; have h9 : (4 : Nat) = 1 := h; omega) | (exfalso; have h9 : (5 : Nat) = 1 := h; omega) | (exfalso; have h9 : (11 : Nat) = 1 := h; omega) | (exfalso; have h9 : (12 : Nat) = 1 := h; omega) | (exfalso; have h9 : (13 : Nat) = 1 := h; omega) | (exfalso; have h9 : (14 : Nat) = 1 := h; omega) | (exfalso; have h9 : (15 : Nat) = 1 := h; omega)
theorem nilNo_2 {b : AV} (h : nilNo b = 2) : b = .snil := by cases b <;> first | rfl | (exfalso; have h9 : (0 : Nat) = 2 := h; omega) | (exfalso; have h9 : (1 : Nat) = 2 := h; omega) | (exfalso; have h9 : (3 : Nat) = 2 := h; omega) | (exfalso; have h9 : (4 : Nat) = 2 := h; omega) | (exfalso; have h9 : (5 : Nat) = 2 := h; omega) | (exfalso; have h9 : (11 : Nat) = 2 := h; omega) | (exfalso; have h9 : (12 : Nat) = 2 := h; omega) | (exfalso; have h9 : (13 : Nat) = 2 := h; omega) | (exfalso; have h9 : (14 : Nat) = 2 := h; omega) | (exfalso; have h9 : (15 : Nat) = 2 := h; omega)
theorem nilNo_3 {b : AV} (h : nilNo b = 3) : b = .mnil := by cases b <;> first | rfl | (exfalso; have h9 : (0 : Nat) = 3 := h; omega) | (exfalso; have h9 : (1 : Nat) = 3 := h; omega) | (exfalso; have h9 : (2 : Nat) = 3 := h; omega) | (exfalso; have h9 : (4 : Nat) = 3 := h; omega) | (exfalso; have h9 : (5 : Nat) = 3 := h; omega) | (exfalso; have h9 : (11 : Nat) = 3 := h; omega) | (exfalso; have h9 : (12 : Nat) = 3 := h; omega) | (exfalso; have h9 : (13 : Nat) = 3 := h; omega) | (exfalso; have h9 : (14 : Nat) = 3 := h; omega) | (exfalso; have h9 : (15 : Nat) = 3 := h; omega)
theorem nilNo_4 {b : AV} (h : nilNo b = 4) : b = .fnil := by cases b <;> first | rfl | (exfalso; have h9 : (0 : Nat) = 4 := h; omega) | (exfalso; have h9 : (1 : Nat) = 4 := h; omega) | (exfalso; have h9 : (2 : Nat) = 4 := h; omega) | (exfalso; have h9 : (3 : Nat) = 4 := h; omega) | (exfalso; have h9 : (5 : Nat) = 4 := h; omega) | (exfalso; have h9 : (11 : Nat) = 4 := h; omega) | (exfalso; have h9 : (12 : Nat) = 4 := h; omega) | (exfalso; have h9 : (13 : Nat) = 4 := h; omega) | (exfalso; have h9 : (14 : Nat) = 4 := h; omega) | (exfalso; have h9 : (15 : Nat) = 4 := h; omega)
theorem nilNo_5 {b : AV} (h : nilNo b = 5) : b = .inil := by cases b <;> first | rfl | (exfalso; have h9 : (0 : Nat) = 5 := h; omega) | (exfalso; have h9 : (1 : Nat) = 5 := h; omega) | (exfalso; have h9 : (2 : Nat) = 5 := h; omega) | (exfalso; have h9 : (3 : Nat) = 5 := h; omega) | (exfalso; have h9 : (4 : Nat) = 5 := h; omega) | (exfalso; have h9 : (11 : Nat) = 5 := h; omega) | (exfalso; have h9 : (12 : Nat) = 5 := h; omega) | (exfalso; have h9 : (13 : Nat) = 5 := h; omega) | (exfalso; have h9 : (14 : Nat) = 5 := h; omega) | (exfalso; have h9 : (15 : Nat) = 5 := h; omega)

mutual
theorem sameV_eq : ∀ (x y : AV), sameV x y = true → x = y
  | .bool x, y, h => by
    obtain ⟨b, rfl, h9⟩ := onBool_some (toB_true h)
    cases x <;> cases b <;> first | rfl | cases h9
  | .int k n, y, h => by
    obtain ⟨j, m, rfl, h9⟩ := onInt_some (toB_true h)
    obtain ⟨h1, h2⟩ := ifB_bool (Option.some.inj h9)
    rw [eqK_eq, decide_eq_true_eq] at h2
    rw [kindNo_inj h1, h2]
  | .str s, y, h => by
    obtain ⟨r, rfl, h9⟩ := onStr_some (toB_true h)
    rw [(strEq_iff s r).1 (Option.some.inj h9)]
  | .pnil, y, h => (nilNo_1 (beq_true h)).symm
  | .ptr p q, y, h => by
    obtain ⟨p', q', rfl, h9⟩ := onPtr_some (toB_true h)
    obtain ⟨h1, h2⟩ := ifB_bool (Option.some.inj h9)
    rw [beq_true h1, beq_true h2]
  | .snil, y, h => (nilNo_2 (beq_true h)).symm
  | .sl p q l c o, y, h => by
    obtain ⟨p', q', l', c', o', rfl, h9⟩ := onSl_some (toB_true h)
    obtain ⟨h1, h8⟩ := ifB_bool (Option.some.inj h9)
    obtain ⟨h2, h7⟩ := ifB_bool h8
    obtain ⟨h3, h6⟩ := ifB_bool h7
    obtain ⟨h4, h5⟩ := ifB_bool h6
    rw [beq_true h1, beq_true h2, beq_true h3, beq_true h4]
    cases o <;> cases o' <;> first | rfl | cases h5
  | .mnil, y, h => (nilNo_3 (beq_true h)).symm
  | .map p, y, h => by
    obtain ⟨p', rfl, h9⟩ := onMap_some (toB_true h)
    rw [beq_true (Option.some.inj h9)]
  | .fnil, y, h => (nilNo_4 (beq_true h)).symm
  | .fn f a1 c1, y, h => by
    obtain ⟨f', a', c', rfl, h9⟩ := onFn_some (toB_true h)
    obtain ⟨h1, h8⟩ := ifB_bool (Option.some.inj h9)
    obtain ⟨h2, h3⟩ := ifB_bool h8
    have h1 : f = f' := beq_true h1
    rw [h1, sameVs_eq a1 a' h2, sameVs_eq c1 c' h3]
  | .inil, y, h => (nilNo_5 (beq_true h)).symm
  | .ifc t v, y, h => by
    obtain ⟨t', v', rfl, h9⟩ := onIfc_some (toB_true h)
    obtain ⟨h1, h2⟩ := ifB_bool (Option.some.inj h9)
    have h1 : t = t' := beq_true h1
    rw [h1, sameV_eq v v' h2]
  | .agg cs, y, h => by
    obtain ⟨cs', rfl, h9⟩ := onAgg_some (toB_true h)
    rw [sameVs_eq cs cs' (Option.some.inj h9)]
  | .bytes l n, y, h => by
    obtain ⟨l', n', rfl, h9⟩ := onBytes_some (toB_true h)
    obtain ⟨h1, h2⟩ := ifB_bool (Option.some.inj h9)
    rw [beq_true h1, beq_true h2]
  | .tup cs, y, h => by
    obtain ⟨cs', rfl, h9⟩ := onTup_some (toB_true h)
    rw [sameVs_eq cs cs' (Option.some.inj h9)]
  | .junk, y, h => by cases h
  | .raw _ _, y, h => by cases h
  | .lit _, y, h => by cases h
theorem sameVs_eq : ∀ (x y : List AV), AV.rec_1 (motive_1 := fun _ => AV → Bool) (motive_2 := fun _ => List AV → Bool)
    (fun x b => toB (onBool b fun y => some (ifB x y (ifB y false true))))
    (fun k n b => toB (onInt b fun j m => some (ifB (sameKind k j) (eqK n m) false)))
    (fun s b => toB (onStr b fun r => some (strEq s r)))
    (fun b => Nat.beq (nilNo b) 1)
    (fun p q b => toB (onPtr b fun p' q' => some (ifB (Nat.beq p p') (Nat.beq q q') false)))
    (fun b => Nat.beq (nilNo b) 2)
    (fun p q l c o b => toB (onSl b fun p' q' l' c' o' => some (ifB (Nat.beq p p') (ifB (Nat.beq q q') (ifB (Nat.beq l l') (ifB (Nat.beq c c') (ifB o o' (ifB o' false true)) false) false) false) false)))
    (fun b => Nat.beq (nilNo b) 3)
    (fun p b => toB (onMap b fun p' => some (Nat.beq p p')))
    (fun b => Nat.beq (nilNo b) 4)
    (fun f _ _ i1 i2 b => toB (onFn b fun f' a' c' => some (ifB (Nat.beq f f') (ifB (i1 a') (i2 c') false) false)))
    (fun b => Nat.beq (nilNo b) 5)
    (fun t _ i b => toB (onIfc b fun t' v' => some (ifB (Nat.beq t t') (i v') false)))
    (fun _ i b => toB (onAgg b fun cs => some (i cs)))
    (fun l n b => toB (onBytes b fun l' n' => some (ifB (Nat.beq l l') (Nat.beq n n') false)))
    (fun _ i b => toB (onTup b fun cs => some (i cs)))
    (fun _ => false) (fun _ _ => false) (fun _ => false) (fun _ _ _ => false) (fun _ _ => false)
    (fun l => List.rec true (fun _ _ _ => false) l)
    (fun _ _ i is l => List.rec false (fun x r _ => ifB (i x) (is r) false) l) x y = true → x = y
  | [], [], _ => rfl
  | [], _ :: _, h => by cases h
  | _ :: _, [], h => by cases h
  | x :: xs, y :: ys, h => by
    obtain ⟨h1, h2⟩ := ifB_bool h
    rw [sameV_eq x y h1, sameVs_eq xs ys h2]
end
theorem sameD_true {d : Option (List D4)} {v : AV} (h : sameD d v t = true) : ∀ p, d = some p → evTmp p t = v := fun p hp => by
  subst hp
  exact (sameV_eq _ _ h).symm
end Go.Proofs.YtgpbcnagaelhiaaGreat.Exe
