/- A part of the machine that reckons a closed run, and of the proof that what it says the given program does. No conditions. -/
import Derived.Test.YtpllompnfhpfmaaGreatDoorMe
import Derived.Laws.Tables
import Derived.Great.BuildSlice
import Derived.Laws.Append
import Derived.Laws.IdiomCopy
set_option linter.unusedVariables false
set_option linter.unusedSimpArgs false
namespace Go.Proofs.YtpllompnfhpfmaaGreatDoor.Exe
open Go
variable {Lg : Laid} {base : Base Lg} {w : World} {P : Program} {ρ : Rho} {S : AS} {t : T} {e : Operand → Value} {o : Oper} {c : K} {z : AV × Option AS}

/-! ### Maps -/
def KeyDesc (s : Nat) (d : TypeDesc) : Prop := (s = 1 ∧ d = .string) ∨ (s = 0 ∧ ∃ k, d = .int k)

theorem keyEq_rel {s : Nat} {d : TypeDesc} (hd : KeyDesc s d) {k k1 : AV} {u u1 : Value} {q : Bool} (hk : Den ρ k u) (hk1 : Den ρ k1 u1) (h : keyEqK s k k1 = some q) :
    Instr.sameNow d u u1 = some q ∧ (q = true → u = u1) ∧ Instr.sameBits 10000 u u = true := by
  rcases hd with ⟨rfl, rfl⟩ | ⟨rfl, kk, rfl⟩
  · obtain ⟨a, rfl, h1⟩ := onStr_some (show onStr k _ = some q from h)
    obtain ⟨b, rfl, h2⟩ := onStr_some (show onStr k1 _ = some q from h1)
    cases hk; cases hk1
    have h2 : strEq a b = q := Option.some.inj h2
    subst h2
    have hb : ∀ x y : ByteArray, (x == y) = strEq x y := fun x y => by rw [beq_toListBytes, ByteArray.toList_eq, ByteArray.toList_eq, strEq_eq]
    refine ⟨?_, fun h => by rw [(strEq_iff a b).1 h], ?_⟩
    · show some (a == b) = _
      rw [hb]
    · show (a == a) = true
      rw [hb, strEq_iff]
  · obtain ⟨j, a, rfl, h1⟩ := onInt_some (show onInt k _ = some q from h)
    obtain ⟨j', b, rfl, h2⟩ := onInt_some (show onInt k1 _ = some q from h1)
    obtain ⟨h3, h4⟩ := ifB_some (show ifB (sameKind j j') (some (eqK a b)) none = some q from h2)
    have := kindNo_inj h3
    subst this
    cases hk; cases hk1
    have h4 : eqK a b = q := Option.some.inj h4
    subst h4
    rw [eqK_eq]
    refine ⟨?_, fun h => by rw [decide_eq_true_eq] at h; rw [h], by simp [Instr.sameBits]⟩
    show (if j = j then some (a == b) else none) = _
    rw [if_pos rfl]
    congr 1

theorem findK_cons (s : Nat) (k : AV) (a : AV × AV × Nat) (es : List (AV × AV × Nat)) : findK s k (a :: es) = onSome (keyEqK s k a.1) fun b => ifB b (some (some a.2.1)) (findK s k es) := rfl
theorem updK_cons (s : Nat) (k v : AV) (a : AV × AV × Nat) (es : List (AV × AV × Nat)) : updK s k v (a :: es) = ifB (Option.rec false (fun b => b) (keyEqK s k a.1)) ((k, v, a.2.2) :: es) (a :: updK s k v es) := rfl
theorem delK_cons (s : Nat) (k : AV) (a : AV × AV × Nat) (es : List (AV × AV × Nat)) : delK s k (a :: es) = ifB (Option.rec false (fun b => b) (keyEqK s k a.1)) es (a :: delK s k es) := rfl

theorem find_rel {s : Nat} {d : TypeDesc} (hd : KeyDesc s d) {k : AV} {u : Value} (hk : Den ρ k u) : ∀ {es : List (AV × AV × Nat)} {ms : List MapEntry} {r : Option AV} (i : Nat), Ents ρ es ms → findK s k es = some r →
    (r = none ∧ Instr.findNow d u ms i = some none ∧ delK s k es = es) ∨
    (∃ v j x m, r = some v ∧ Instr.findNow d u ms i = some (some (i + j, x)) ∧ Den ρ v x ∧ ms[j]? = some m ∧ m.key = u ∧ Instr.sameBits 10000 u u = true ∧ Ents ρ (delK s k es) (ms.eraseIdx j) ∧ ∀ v' x', Den ρ v' x' → Ents ρ (updK s k v' es) (ms.modify j fun e => { e with key := u, val := x' }))
  | _, _, r, i, .nil, h => by
    cases h
    exact .inl ⟨rfl, rfl, rfl⟩
  | _, _, r, i, .cons (k := k1) (v := v1) (b := b1) (es := es) (m := m) (ms := ms) h1 h2 h3 h4, h => by
    rw [findK_cons] at h
    obtain ⟨q, hq, h⟩ := onSome_some h
    obtain ⟨e1, e2, e3⟩ := keyEq_rel hd hk h1 hq
    have hq' : keyEqK s k (k1, v1, b1).1 = some q := hq
    cases q with
    | true =>
      cases h
      have e2 := e2 rfl
      refine .inr ⟨v1, 0, m.val, m, rfl, ?_, h2, rfl, e2.symm, e3, ?_, fun v' x' hv => ?_⟩
      · show (match Instr.sameNow d u m.key with | some true => some (some (i, m.val)) | some false => Instr.findNow d u ms (i + 1) | none => none) = _
        rw [e1]; rfl
      · rw [delK_cons, hq']
        exact h4
      · rw [updK_cons, hq']
        exact .cons hk hv h3 h4
    | false =>
      rcases find_rel hd hk (i + 1) h4 h with ⟨a1, a2, a3⟩ | ⟨v, j, x, m', a1, a2, a3, a4, a5, a6, a7, a8⟩
      · refine .inl ⟨a1, ?_, ?_⟩
        · show (match Instr.sameNow d u m.key with | some true => some (some (i, m.val)) | some false => Instr.findNow d u ms (i + 1) | none => none) = _
          rw [e1]; exact a2
        · rw [delK_cons, hq', a3]; rfl
      · refine .inr ⟨v, j + 1, x, m', a1, ?_, a3, by simpa using a4, a5, a6, ?_, fun v' x' hv => ?_⟩
        · show (match Instr.sameNow d u m.key with | some true => some (some (i, m.val)) | some false => Instr.findNow d u ms (i + 1) | none => none) = _
          rw [e1]
          show Instr.findNow d u ms (i + 1) = _
          rw [a2, show i + 1 + j = i + (j + 1) by omega]
        · rw [delK_cons, hq']
          exact .cons h1 h2 h3 a7
        · rw [updK_cons, hq']
          exact .cons h1 h2 h3 (a8 v' x' hv)

theorem run_checkKey {s : Nat} {d : TypeDesc} (hd : KeyDesc s d) {kt : TypeId} (hu : P.underlying kt = some d) {k : AV} {u : Value} (hk : Den ρ k u) (hs : (∃ k1 q, keyEqK s k k1 = some q) ∨ True) (b : Bool) (n : Nat) (w : World) :
    (Instr.checkKey b (n + 1) kt u).run P w = .ok () w := by
  unfold Instr.checkKey
  rw [Sem.run_bind, run_underlying hu]
  rcases hd with ⟨rfl, rfl⟩ | ⟨rfl, kk, rfl⟩ <;> cases hk <;> rfl

theorem run_findKey {d : TypeDesc} {kt : TypeId} (hu : P.underlying kt = some d) {u : Value} {ms : List MapEntry} {r : Option (Nat × Value)} (h : Instr.findNow d u ms 0 = some r) (w : World) : (Instr.findKey kt u ms).run P w = .ok r w := by
  unfold Instr.findKey
  rw [Sem.run_bind, run_underlying hu]
  simp [h]

theorem s_lookup {ty kt el : TypeId} {x i : Operand} {x' i' : AR} {s : Nat} {ok : Bool} {d : TypeDesc} {zv : Value} {za : AV} {ti : TypeInfo} (ho : o.op = .lookup ty x i ok) (hu : P.underlying ty = some (.map kt el)) (hk : P.underlying kt = some d) (hd : KeyDesc s d)
    (hi : P.info? el = some ti) (hz : ti.zero = some zv) (hza : ofValue zv = some za) (hx : ofOperand x = some x') (hix : ofOperand i = some i') (he : EvRel ρ t e) (hw : WRel base ρ S w)
    (h : kLookup s za x' i' ok t S c = some z) : OpVal P ρ S e o w c z := by
  have hdx := he x x' hx
  have hdi := he i i' hix
  have hzd : Den ρ za zv := ofValue_some hza
  rcases ifB_or h with ⟨h0, h1⟩ | ⟨_, h1⟩
  · have hnil : ev x' t = .mnil := by
      have := beq_true h0
      generalize ev x' t = v at this
      cases v <;> first | rfl | (exact absurd (show (_ : Nat) = 3 from this) (by first | decide | (intro h; cases h)))
    rw [hnil] at hdx
    generalize hex : e x = ex at hdx
    cases hdx
    have hck := run_checkKey (P := P) hd hk hdi (.inr trivial) (#[] : Array MapEntry).isEmpty 9999 w
    have hfk := run_findKey (P := P) (d := d) (kt := kt) (u := e i) (ms := []) (r := none) hk rfl w
    have h1 : c (ifB ok (.tup [za, .bool false]) za) S = some z := h1
    cases ok with
    | true =>
      refine .pure (u := .tuple #[zv, .bool false]) h1 hw (.tup (.cons hzd (.cons (.bool _) .nil))) ?_
      simp [execOp, ho, hex, Instr.lookup, run_underlying hu]
      rw [show (#[] : Array MapEntry).isEmpty = true from rfl] at hck
      simp [hck, hfk, zeroValue, typeInfo, hi, hz]
    | false =>
      refine .pure (u := zv) h1 hw hzd ?_
      simp [execOp, ho, hex, Instr.lookup, run_underlying hu]
      rw [show (#[] : Array MapEntry).isEmpty = true from rfl] at hck
      simp [hck, hfk, zeroValue, typeInfo, hi, hz]
  · obtain ⟨b, hv, h2⟩ := onMap_some h1
    obtain ⟨es, k, hb, h3⟩ := onMapO_some h2
    obtain ⟨f, hf, h4⟩ := onSome_some h3
    rw [hv] at hdx
    generalize hex : e x = ex at hdx
    cases hdx with
    | @map _ r q hρ =>
      obtain ⟨ms, hm, hE⟩ := hw.map hb hρ
      have hck := run_checkKey (P := P) hd hk hdi (.inr trivial) ms.isEmpty 9999 w
      have hgo := run_getObj_map (P := P) hm
      rcases find_rel hd hdi 0 hE hf with ⟨rfl, a2, _⟩ | ⟨v, j, xv, m, rfl, a2, a3, _⟩
      · have hfk := run_findKey hk a2 w
        have h4 : c (ifB ok (.tup [za, .bool false]) za) S = some z := h4
        cases ok with
        | true =>
          refine .pure (u := .tuple #[zv, .bool false]) h4 hw (.tup (.cons hzd (.cons (.bool _) .nil))) ?_
          simp [execOp, ho, hex, Instr.lookup, run_underlying hu, hgo, hck, hfk, zeroValue, typeInfo, hi, hz]
        | false =>
          refine .pure (u := zv) h4 hw hzd ?_
          simp [execOp, ho, hex, Instr.lookup, run_underlying hu, hgo, hck, hfk, zeroValue, typeInfo, hi, hz]
      · have hfk := run_findKey hk a2 w
        have h4 : c (ifB ok (.tup [v, .bool true]) v) S = some z := h4
        cases ok with
        | true =>
          refine .pure (u := .tuple #[xv, .bool true]) h4 hw (.tup (.cons a3 (.cons (.bool _) .nil))) ?_
          simp [execOp, ho, hex, Instr.lookup, run_underlying hu, hgo, hck, hfk]
        | false =>
          refine .pure (u := xv) h4 hw a3 ?_
          simp [execOp, ho, hex, Instr.lookup, run_underlying hu, hgo, hck, hfk]

theorem Ents.append {ρ : Rho} : ∀ {a : List (AV × AV × Nat)} {x : List MapEntry} {b : List (AV × AV × Nat)} {y : List MapEntry}, Ents ρ a x → Ents ρ b y → Ents ρ (a ++ b) (x ++ y)
  | _, _, _, _, .nil, h => h
  | _, _, _, _, .cons a b c d, h => .cons a b c (d.append h)

/-- An object set. -/
theorem run_setObj {r : Nat} (ob : Obj) {w : World} {es : Array MapEntry} {k : Nat} (h : w.heap[r]? = some (.map es k)) : (setObj r ob).run P w = .ok () (w.putObj r ob) := by
  simp [setObj, Sem.run, h, World.putObj]

theorem s_mapUpdate {ty kt el : TypeId} {m k v : Operand} {m' k' v' : AR} {s : Nat} {d : TypeDesc} (ho : o.op = .mapUpdate ty m k v ∨ o.op = .insert ty m k v) (hu : P.underlying ty = some (.map kt el)) (hk : P.underlying kt = some d) (hd : KeyDesc s d)
    (hm : ofOperand m = some m') (hkk : ofOperand k = some k') (hv : ofOperand v = some v') (he : EvRel ρ t e) (hw : WRel base ρ S w) (h : kMapUpdate s m' k' v' t S c = some z) : OpPost base P ρ S e o w c z := by
  have hdm := he m m' hm
  have hdk := he k k' hkk
  have hdv := he v v' hv
  have hs : Nat.ble 2 s = false := by rcases hd with ⟨rfl, _⟩ | ⟨rfl, _⟩ <;> rfl
  have h : ifB (Nat.ble 2 s) _ (onMap (ev m' t) _) = some z := h
  rw [hs] at h
  obtain ⟨b, hvm, h2⟩ := onMap_some (show onMap (ev m' t) _ = some z from h)
  obtain ⟨es, cl, hb, h3⟩ := onMapO_some h2
  obtain ⟨f, hf, h4⟩ := onSome_some h3
  rw [hvm] at hdm
  generalize hex : e m = ex at hdm
  cases hdm with
  | @map _ r q hρ =>
    obtain ⟨ms, hms, hE⟩ := hw.map hb hρ
    have hck := run_checkKey (P := P) hd hk hdk (.inr trivial) false 9999 w
    have hgo := run_getObj_map (P := P) hms
    have fin : ∀ w', (Instr.mapUpdate ty (.map (some r)) (e k) (e v)).run P w = .ok () w' → (execOp e o).run P w = .ok .skip w' := fun w' hr => by
      rcases ho with ho | ho <;> simp [execOp, ho, hex, hr]
    rcases find_rel hd hdk 0 hE hf with ⟨rfl, a2, _⟩ | ⟨v1, j, xv, mm, rfl, a2, a3, a4, a5, a6, a7, a8⟩
    · have hfk := run_findKey hk a2 w
      refine ⟨_, _, ρ, _, undef, h4, ρ.le_refl, .put hρ, hw.put (u := Obj.map (ms.toArray.push ({ key := e k, val := e v, born := cl } : MapEntry)) (cl + 1)) ⟨_, hb⟩ hρ ?_, .tup .nil, .inr ⟨fin _ ?_, rfl⟩⟩
      · have : ms.toArray.push ({ key := e k, val := e v, born := cl } : MapEntry) = (ms ++ [({ key := e k, val := e v, born := cl } : MapEntry)]).toArray := by simp
        rw [this]
        exact .map (hE.append (.cons hdk hdv rfl .nil))
      · simp [Instr.mapUpdate, run_underlying hu, hgo, hck, hfk, run_setObj _ hms]
    · have hfk := run_findKey hk a2 w
      refine ⟨_, _, ρ, _, undef, h4, ρ.le_refl, .put hρ, hw.put (u := .map (ms.toArray.modify j fun en => { en with key := e k, val := e v }) cl) ⟨_, hb⟩ hρ ?_, .tup .nil, .inr ⟨fin _ ?_, rfl⟩⟩
      · have : ms.toArray.modify j (fun en => { en with key := e k, val := e v }) = (ms.modify j fun en => { en with key := e k, val := e v }).toArray := by simp
        rw [this]
        exact .map (a8 _ _ hdv)
      · have hj : ms.toArray[j]? = some mm := by simpa using a4
        simp [Instr.mapUpdate, run_underlying hu, hgo, hck, hfk, a4, a5, Instr.keyThatStays, a6, run_setObj _ hms]

/-- A struct of whole numbers may be a key. -/
theorem intFields_all : ∀ (fs : List Field) (n : Nat), intFields P fs = some n → ∀ f ∈ fs, (∃ k, P.underlying f.type = some (.int k)) ∧ f.offset < n
  | [], _, _, _, h => by cases h
  | f :: fs, n, h, g, hg => by
    cases hu : P.underlying f.type with
    | none => simp [intFields, hu] at h
    | some d =>
      cases d <;> simp only [intFields, hu] at h <;> try (cases h; done)
      rename_i k
      obtain ⟨n', hn', rfl⟩ := Option.map_eq_some_iff.1 h
      rcases List.mem_cons.1 hg with rfl | hg
      · exact ⟨⟨k, hu⟩, Nat.lt_of_lt_of_le (Nat.lt_succ_self _) (Nat.le_max_left _ _)⟩
      · obtain ⟨h1, h2⟩ := intFields_all fs n' hn' g hg
        exact ⟨h1, Nat.lt_of_lt_of_le h2 (Nat.le_max_right _ _)⟩
theorem run_forIn_quiet {A : Type} (g : A → PUnit → Sem (ForInStep PUnit)) (w : World) : ∀ l : List A, (∀ a ∈ l, (g a ⟨⟩).run P w = .ok (.yield ⟨⟩) w) → (forIn l PUnit.unit g).run P w = .ok ⟨⟩ w
  | [], _ => rfl
  | a :: l, h => by
    rw [List.forIn_cons, Sem.run_bind, h a List.mem_cons_self]
    exact run_forIn_quiet g w l fun b hb => h b (List.mem_cons_of_mem _ hb)
theorem s_mapFresh {ty kt el : TypeId} {m k v : Operand} {m' k' v' : AR} {n : Nat} {fs : Array Field} (ho : o.op = .mapUpdate ty m k v ∨ o.op = .insert ty m k v) (hu : P.underlying ty = some (.map kt el)) (hk : P.underlying kt = some (.struct fs)) (hf : intFields P fs.toList = some n)
    (hm : ofOperand m = some m') (hkk : ofOperand k = some k') (hv : ofOperand v = some v') (he : EvRel ρ t e) (hw : WRel base ρ S w) (h : kMapUpdate (2 + n) m' k' v' t S c = some z) : OpPost base P ρ S e o w c z := by
  have hdm := he m m' hm
  have hdk := he k k' hkk
  have hdv := he v v' hv
  have hs : Nat.ble 2 (2 + n) = true := Nat.ble_eq_true_of_le (by omega)
  have h : ifB (Nat.ble 2 (2 + n)) (onAgg (ev k' t) fun l => ifB (Nat.ble (Nat.sub (2 + n) 2) (widths l)) (onMap (ev m' t) fun b => onMapO S b fun es c' => onSome (findK (2 + n) (ev k' t) es) fun f => Option.rec (c (.tup []) (putK S b (.map (List.append es [(ev k' t, ev v' t, c')]) (Nat.succ c')))) (fun _ => c (.tup []) (putK S b (.map (updK (2 + n) (ev k' t) (ev v' t) es) c'))) f) none) _ = some z := h
  rw [hs] at h
  obtain ⟨l, hl, h⟩ := onAgg_some (show onAgg (ev k' t) _ = some z from h)
  obtain ⟨hwd, h⟩ := ifB_some h
  obtain ⟨b, hvm, h2⟩ := onMap_some h
  obtain ⟨es, cl, hb, h3⟩ := onMapO_some h2
  obtain ⟨f, hff, h4⟩ := onSome_some h3
  rw [hvm] at hdm
  generalize hex : e m = ex at hdm
  cases hdm with
  | @map _ r q hρ =>
    obtain ⟨ms, hms, hE⟩ := hw.map hb hρ
    cases hE with
    | cons => 
      exfalso
      have h0 : Nat.beq (2 + n) 1 = false := by rw [Bool.eq_false_iff]; intro e; have := beq_true e; omega
      have h1 : Nat.beq (2 + n) 0 = false := by rw [Bool.eq_false_iff]; intro e; have := beq_true e; omega
      rw [findK_cons] at hff
      obtain ⟨q, hq, _⟩ := onSome_some hff
      unfold keyEqK at hq
      rw [h0, h1] at hq
      cases hq
    | nil =>
      cases hff
      have hdk' := hdk
      rw [hl] at hdk'
      generalize hek : e k = ek at hdk'
      cases hdk' with
      | @agg _ us hc =>
        have hlen := widths_eq hc
        have hwd := ble_true hwd
        have hck : (Instr.checkKey false 10000 kt (.agg us.toArray)).run P w = .ok () w := by
          unfold Instr.checkKey
          rw [Sem.run_bind, run_underlying hk]
          have hns : n ≤ us.length := by
            have : Nat.sub (2 + n) 2 = n := by show 2 + n - 2 = n; omega
            rw [this, hlen] at hwd
            exact hwd
          simp only [Result.andThen_ok]
          rw [← Array.forIn_toList]
          rw [Sem.run_bind, run_forIn_quiet (P := P) _ w fs.toList ?hall]
          · rfl
          intro f hfm
          obtain ⟨⟨k', hu'⟩, ho'⟩ := intFields_all fs.toList n hf f hfm
          have hp : (part f.type us.toArray f.offset).run P w = .ok us[f.offset] w := by
            have hg : (isAgg f.type).run P w = .ok false w := run_isAgg_false hu' (by unfold aggT; rw [hu']) w
            simp [part, hg, show f.offset < us.length by omega]
          have hck : ∀ v, (Instr.checkKey false (9998 + 1) f.type v).run P w = .ok () w := fun v => by
            unfold Instr.checkKey
            rw [Sem.run_bind, run_underlying hu']
            rfl
          by_cases hname : f.name = "_"
          · simp [hname]
          · simp [hname, hp, hck]
        have hgo := run_getObj_map (P := P) hms
        have fin : ∀ w', (Instr.mapUpdate ty (.map (some r)) (e k) (e v)).run P w = .ok () w' → (execOp e o).run P w = .ok .skip w' := fun w' hr => by
          rcases ho with ho | ho <;> simp [execOp, ho, hex, hr]
        have hfk := run_findKey (P := P) (d := .struct fs) (kt := kt) (u := e k) (ms := []) (r := none) hk rfl w
        have h4 : c (.tup []) (putK S b (.map (List.append [] [(ev k' t, ev v' t, cl)]) (Nat.succ cl))) = some z := h4
        refine ⟨_, _, ρ, _, undef, h4, ρ.le_refl, .put hρ, hw.put (u := Obj.map (#[({ key := e k, val := e v, born := cl } : MapEntry)]) (cl + 1)) ⟨_, hb⟩ hρ ?_, .tup .nil, .inr ⟨fin _ ?_, rfl⟩⟩
        · exact .map (ms := [({ key := e k, val := e v, born := cl } : MapEntry)]) (.cons hdk hdv rfl .nil)
        · rw [hek] at hfk ⊢
          simp [Instr.mapUpdate, run_underlying hu, hgo, hck, hfk, run_setObj _ hms]

theorem s_delete {ty kt el : TypeId} {ats : Array TypeId} {m k : Operand} {m' k' : AR} {s : Nat} {d : TypeDesc} (ho : o.op = .call { callee := .builtin .delete, args := #[m, k], argTypes := ats }) (ha : ats[0]? = some ty) (hu : P.underlying ty = some (.map kt el)) (hk : P.underlying kt = some d) (hd : KeyDesc s d)
    (hm : ofOperand m = some m') (hkk : ofOperand k = some k') (he : EvRel ρ t e) (hw : WRel base ρ S w) (h : kDelete s m' k' t S c = some z) : OpPost base P ρ S e o w c z := by
  have hdm := he m m' hm
  have hdk := he k k' hkk
  obtain ⟨b, hvm, h2⟩ := onMap_some h
  obtain ⟨es, cl, hb, h3⟩ := onMapO_some h2
  obtain ⟨f, hf, h4⟩ := onSome_some h3
  rw [hvm] at hdm
  generalize hex : e m = ex at hdm
  cases hdm with
  | @map _ r q hρ =>
    obtain ⟨ms, hms, hE⟩ := hw.map hb hρ
    have hck := run_checkKey (P := P) hd hk hdk (.inr trivial) ms.isEmpty 9999 w
    have hgo := run_getObj_map (P := P) hms
    rcases find_rel hd hdk 0 hE hf with ⟨rfl, a2, a3⟩ | ⟨v1, j, xv, mm, rfl, a2, a3, a4, a5, a6, a7, a8⟩
    · have hfk := run_findKey hk a2 w
      refine ⟨_, _, ρ, _, _, h4, ρ.le_refl, .put hρ, hw.put (u := .map ms.toArray cl) ⟨_, hb⟩ hρ (.map (by rw [a3]; exact hE)), .tup .nil, .inl ?_⟩
      simp [execOp, ho, resolve, invoke, builtin, Builtin.delete_, ha, hex, run_underlying hu, hgo, hck, hfk, run_setObj _ hms]
    · have hfk := run_findKey hk a2 w
      refine ⟨_, _, ρ, _, _, h4, ρ.le_refl, .put hρ, hw.put (u := .map (ms.toArray.eraseIdxIfInBounds j) cl) ⟨_, hb⟩ hρ ?_, .tup .nil, .inl ?_⟩
      · have : ms.toArray.eraseIdxIfInBounds j = (ms.eraseIdx j).toArray := by
          simp
        rw [this]
        exact .map a7
      · simp [execOp, ho, resolve, invoke, builtin, Builtin.delete_, ha, hex, run_underlying hu, hgo, hck, hfk, run_setObj _ hms]
end Go.Proofs.YtpllompnfhpfmaaGreatDoor.Exe
namespace Go.Proofs.YtpllompnfhpfmaaGreatDoor.Exe
open Go
variable {Lg : Laid} {base : Base Lg} {w : World} {P : Program} {ρ : Rho} {S : AS} {t : T} {e : Operand → Value} {o : Oper} {c : K} {z : AV × Option AS}

/-! ### Small values -/
theorem s_lenOf {x : Operand} {x' : AR} {ats : Array TypeId} {ty : TypeId} {d : TypeDesc} {kd : Nat} (ho : o.op = .call { callee := .builtin .len, args := #[x], argTypes := ats }) (ha : ats[0]? = some ty) (hu : P.underlying ty = some d)
    (hk : (d = .string ∧ kd = 0) ∨ ((∃ el, d = .slice el) ∧ kd = 1) ∨ ((∃ k v, d = .map k v) ∧ kd = 2)) (hx : ofOperand x = some x') (he : EvRel ρ t e) (hw : WRel base ρ S w) (h : kLenOf kd x' t S c = some z) : OpVal P ρ S e o w c z := by
  obtain ⟨h1, h2⟩ := ifB_some h
  have h1 := beq_true h1
  refine s_lenAny ho ha hu (fun u v hv _ => ?_) hx he hw h2
  rw [hv] at h1
  rcases hk with ⟨rfl, rfl⟩ | ⟨⟨el, rfl⟩, rfl⟩ | ⟨⟨k, vv, rfl⟩, rfl⟩ <;> cases v <;> first | trivial | exact absurd h1 (by intro h; cases h)

theorem s_strOp {op : BinOp} {ty yt : TypeId} {x y : Operand} {x' y' : AR} (ho : o.op = .binOp op ty x y yt) (hx : ofOperand x = some x') (hy : ofOperand y = some y') (he : EvRel ρ t e) (hw : WRel base ρ S w)
    (h : kStrOp op x' y' t S c = some z) : OpVal P ρ S e o w c z := by
  obtain ⟨a, hva, h1⟩ := onStr_some h
  obtain ⟨b, hvb, h2⟩ := onStr_some (show onStr (ev y' t) _ = some z from h1)
  obtain ⟨v, hv, h3⟩ := retO_some h2
  have hdx := he x x' hx
  have hdy := he y y' hy
  rw [hva] at hdx
  rw [hvb] at hdy
  generalize hex : e x = ex at hdx
  generalize hey : e y = ey at hdy
  cases hdx; cases hdy
  have e1 : (a.toList == b.toList) = strEq a b := by rw [ByteArray.toList_eq, ByteArray.toList_eq, strEq_eq]
  cases op <;> first | (cases hv; done) | skip
  · obtain ⟨hs, hv⟩ := ifB_some (show ifB (Nat.ble (Nat.add a.size b.size) 4611686018427387904) (some (AV.str (a ++ b))) none = some v from hv)
    have hs : a.size + b.size ≤ 4611686018427387904 := ble_true hs
    cases hv
    refine .pure h3 hw (.str _) ?_
    simp [execOp, ho, hex, hey, eqGuard, binOp, Op.stringOp]
    have e9 : IntKind.i64.max = 9223372036854775807 := by decide
    omega
  · cases hv
    refine .pure h3 hw (.bool _) ?_
    simp only [execOp, ho, hex, hey, eqGuard, binOp, Op.stringOp, e1]
    rfl
  · cases hv
    refine .pure h3 hw (.bool _) ?_
    simp only [execOp, ho, hex, hey, eqGuard, binOp, Op.stringOp, e1, ifB_not]
    rfl

theorem nthK_some {A : Type} : ∀ {l : List A} {n : Nat} {a : A}, nthK l n = some a → l[n]? = some a
  | [], _, _, h => by cases h
  | b :: l, n, a, h => by
    rcases ifB_or (show ifB (Nat.beq n 0) (some b) (nthK l (n - 1)) = some a from h) with ⟨hb, h⟩ | ⟨hb, h⟩
    · have := beq_true hb; subst this; cases h; rfl
    · have := beq_false hb
      obtain ⟨m, rfl⟩ : ∃ m, n = m + 1 := ⟨n - 1, by omega⟩
      have h : nthK l m = some a := h
      simpa using nthK_some h

theorem s_ixString {ty : TypeId} {x i : Operand} {x' i' : AR} (ho : o.op = .index ty x i) (hu : P.underlying ty = some .string) (hx : ofOperand x = some x') (hi : ofOperand i = some i') (he : EvRel ρ t e) (hw : WRel base ρ S w)
    (h : kIxString x' i' t S c = some z) : OpVal P ρ S e o w c z := by
  obtain ⟨s, hvs, h1⟩ := onStr_some h
  obtain ⟨kd, m, hvi, h2⟩ := onNat_some h1
  obtain ⟨b, hb, h3⟩ := onSome_some h2
  have hdx := he x x' hx
  have hdi := he i i' hi
  rw [hvs] at hdx
  rw [hvi] at hdi
  generalize hex : e x = ex at hdx
  generalize hei : e i = ei at hdi
  cases hdx; cases hdi
  have hb := nthK_some hb
  have hlt : m < s.size := by
    rcases Nat.lt_or_ge m s.data.toList.length with h' | h'
    · simpa using h'
    · rw [List.getElem?_eq_none h'] at hb; cases hb
  have hb2 : s[m]? = some b := by
    rw [ByteArray.getElem?_lt' s m hlt]
    have : s.data.toList[m]? = some s[m] := by
      rw [List.getElem?_eq_getElem (by simpa using hlt)]
      rfl
    rw [this] at hb
    exact hb
  refine .pure h3 hw (.int _ _) ?_
  simp [execOp, ho, hex, hei, Instr.index, asIntOf, run_underlying hu, hb2]

theorem s_ixArray {ty el : TypeId} {x i : Operand} {x' i' : AR} {len n : Nat} {d : TypeDesc} (ho : o.op = .index ty x i) (hu : P.underlying ty = some (.array len el)) (hue : P.underlying el = some d) (hn : (P.info? el).map (·.size) = some n) (hx : ofOperand x = some x') (hi : ofOperand i = some i') (he : EvRel ρ t e) (hw : WRel base ρ S w)
    (h : kIxArray len n (aggT P el) x' i' t S c = some z) : OpVal P ρ S e o w c z := by
  obtain ⟨cs, hvs, h1⟩ := onAgg_some h
  obtain ⟨kd, m, hvi, h2⟩ := onNat_some h1
  obtain ⟨hlt, h3⟩ := ifB_some (show ifB (Nat.blt m len) _ none = some z from h2)
  obtain ⟨v, hv, h4⟩ := retO_some h3
  have hlt : m < len := ble_true hlt
  have hdx := he x x' hx
  have hdi := he i i' hi
  rw [hvs] at hdx
  rw [hvi] at hdi
  obtain ⟨us, hex, hcs, _⟩ := row_cells hdx
  generalize hei : e i = ei at hdi
  cases hdi
  cases hq : P.info? el with
  | none => rw [hq] at hn; cases hn
  | some ti =>
    have hsz : ti.size = n := by rw [hq] at hn; simpa using hn
    rcases valueK_some hcs hv with ⟨ha, hlen, hden⟩ | ⟨ha, u, hu2, hden, _⟩
    · refine .pure h4 hw hden ?_
      have e1 : us.toArray.extract (m * n) (m * n + n) = ((us.drop (m * n)).take n).toArray := by
        apply Array.toList_inj.1
        simp [List.extract]
      simp [execOp, ho, hex, hei, Instr.index, asIntOf, run_underlying hu, hlt, sizeOf, typeInfo, hq, hsz, part, run_isAgg_any hue, ha, e1]
    · have hu2 : us[m * n]? = some u := hu2
      refine .pure h4 hw hden ?_
      have hlen : m * n < us.length := by
        rcases Nat.lt_or_ge (m * n) us.length with h' | h'
        · exact h'
        · rw [List.getElem?_eq_none h'] at hu2; cases hu2
      have e2 : us[m * n] = u := by rw [List.getElem?_eq_getElem hlen] at hu2; exact Option.some.inj hu2
      simp [execOp, ho, hex, hei, Instr.index, asIntOf, run_underlying hu, hlt, sizeOf, typeInfo, hq, hsz, part, run_isAgg_any hue, ha, hu2, hlen, e2]

theorem evs_rel {l : List Operand} {as : List AR} (h : ofOperands l = some as) (he : EvRel ρ t e) : DenL ρ (evs as t) (l.map e) := by
  induction l generalizing as with
  | nil => cases h; exact .nil
  | cons x r ih =>
    simp only [ofOperands, Option.bind_eq_some_iff, Option.map_eq_some_iff] at h
    obtain ⟨a, ha, as', has, rfl⟩ := h
    exact .cons (he x a ha) (ih has)

theorem s_minmax {b : Builtin} {mx : Bool} {args : Array Operand} {ats : Array TypeId} {as : List AR} (ho : o.op = .call { callee := .builtin b, args := args, argTypes := ats }) (hb : (b = .max ∧ mx = true) ∨ (b = .min ∧ mx = false)) (ha : ofOperands args.toList = some as) (he : EvRel ρ t e) (hw : WRel base ρ S w)
    (h : kMinmax mx as t S c = some z) : OpVal P ρ S e o w c z := by
  have hl := evs_rel ha he
  unfold kMinmax at h
  generalize evs as t = vs at h hl
  generalize hus : args.toList.map e = us at hl
  have hargs : args.map e = us.toArray := by
    apply Array.toList_inj.1
    simp [hus]
  cases hl with
  | nil => cases h
  | @cons v u vs us hv hl =>
    obtain ⟨k, a, rfl, h⟩ := onInt_some (show onInt v (fun k a => mm mx k vs a none fun n => c (.int k n) S) = some z from h)
    cases hv
    have key : ∀ (vs : List AV) (us : List Value) (a : Int), DenL ρ vs us → mm mx k vs a none (fun n => c (.int k n) S) = some z →
        ∃ n, c (.int k n) S = some z ∧ (us.foldlM (if mx then Builtin.max2 else Builtin.min2) (.int k a)).run P w = .ok (.int k n) w := by
      intro vs
      induction vs with
      | nil => intro us a hl h; cases hl; exact ⟨a, h, rfl⟩
      | cons v vs ih =>
        intro us a hl h
        cases hl with
        | @cons _ u _ us hv hl =>
          obtain ⟨k', b, rfl, h9⟩ := onInt_some (show onInt v (fun _ b => ifB mx (ifB (ltK a b) (mm mx k vs b none fun n => c (.int k n) S) (mm mx k vs a none fun n => c (.int k n) S)) (ifB (ltK b a) (mm mx k vs b none fun n => c (.int k n) S) (mm mx k vs a none fun n => c (.int k n) S))) = some z from h)
          cases hv
          have h : ifB mx (ifB (ltK a b) (mm mx k vs b none fun n => c (.int k n) S) (mm mx k vs a none fun n => c (.int k n) S)) (ifB (ltK b a) (mm mx k vs b none fun n => c (.int k n) S) (mm mx k vs a none fun n => c (.int k n) S)) = some z := h9
          rw [ltK_eq, ltK_eq] at h
          cases mx with
          | true =>
            by_cases hlt : a < b
            · rw [decide_eq_true hlt] at h
              obtain ⟨n, h1, h2⟩ := ih us b hl h
              exact ⟨n, h1, by simp [List.foldlM_cons, Builtin.max2, hlt]; simpa using h2⟩
            · rw [decide_eq_false hlt] at h
              obtain ⟨n, h1, h2⟩ := ih us a hl h
              exact ⟨n, h1, by simp [List.foldlM_cons, Builtin.max2, hlt]; simpa using h2⟩
          | false =>
            by_cases hlt : b < a
            · rw [decide_eq_true hlt] at h
              obtain ⟨n, h1, h2⟩ := ih us b hl h
              exact ⟨n, h1, by simp [List.foldlM_cons, Builtin.min2, hlt]; simpa using h2⟩
            · rw [decide_eq_false hlt] at h
              obtain ⟨n, h1, h2⟩ := ih us a hl h
              exact ⟨n, h1, by simp [List.foldlM_cons, Builtin.min2, hlt]; simpa using h2⟩
    obtain ⟨n, h1, h2⟩ := key vs us a hl h
    refine .pure h1 hw (.int _ _) ?_
    rcases hb with ⟨rfl, rfl⟩ | ⟨rfl, rfl⟩
    · simp only [execOp, ho, resolve, hargs]
      simp [invoke, builtin, Builtin.max_]
      simp at h2
      simp [h2]
    · simp only [execOp, ho, resolve, hargs]
      simp [invoke, builtin, Builtin.min_]
      simp at h2
      simp [h2]

/-! ### Values with parts -/
theorem foldl_set (off : Nat) : ∀ (vs : List Value) (k : Nat) (cells : Array Value), off + k + vs.length ≤ cells.size →
    ((vs.zipIdx k).foldl (fun cs p => cs.setIfInBounds (off + p.2) p.1) cells).toList = cells.toList.take (off + k) ++ vs ++ cells.toList.drop (off + k + vs.length)
  | [], k, cells, _ => by simp
  | v :: vs, k, cells, h => by
    have h : off + k + (vs.length + 1) ≤ cells.size := h
    rw [List.zipIdx_cons, List.foldl_cons]
    rw [foldl_set off vs (k + 1) _ (by rw [Array.size_setIfInBounds]; omega)]
    have hl : (cells.setIfInBounds (off + k) v).toList = cells.toList.take (off + k) ++ [v] ++ cells.toList.drop (off + k + 1) := by
      rw [Array.toList_setIfInBounds, take_set_drop _ _ _ (by simp; omega)]
    rw [hl]
    have e1 : (cells.toList.take (off + k)).length = off + k := by simp; omega
    have e2 : (cells.toList.take (off + k) ++ [v]).length = off + k + 1 := by rw [List.length_append, e1]; rfl
    rw [show off + (k + 1) = off + k + 1 by omega, show off + k + 1 + vs.length = (off + k + 1) + vs.length from rfl]
    rw [List.take_append_of_le_length (by omega), List.take_of_length_le (by omega), List.drop_append, e2, List.drop_of_length_le (by omega), List.nil_append, List.drop_drop]
    simp only [List.length_cons, List.append_assoc, List.singleton_append, List.nil_append, List.cons_append]
    congr 3
    congr 1
    omega

theorem fill_rel {place : Nat → Option (Nat × Nat)} (he : EvRel ρ t e) : ∀ (ps : List (Nat × Operand)) (l : List (Nat × Nat × AR)) (cells : Array Value) (cs r : List AV), partsOf place ps = some l → Cells ρ cs cells.toList → fillK (partsK l t) cs = some r →
    ∃ cells', Instr.fill place cells (ps.map fun p => (p.1, e p.2)) = some cells' ∧ Cells ρ r cells'.toList
  | [], l, cells, cs, r, hp, hc, h => by
    cases hp
    cases h
    exact ⟨cells, rfl, hc⟩
  | p :: ps, l, cells, cs, r, hp, hc, h => by
    simp only [partsOf, Option.bind_eq_some_iff, Option.map_eq_some_iff] at hp
    obtain ⟨q, hq, x, hx, l', hl', rfl⟩ := hp
    obtain ⟨cs', hput, h⟩ := onSome_some (show onSome (putValK cs q.1 q.2 (ev x t)) (fillK (partsK l' t)) = some r from h)
    obtain ⟨h1, h2, h3, h4⟩ := putValK_some hc (he p.2 x hx) hput
    have hll : (e p.2).cells.toList.length = q.2 := by rw [Array.length_toList]; exact h1
    have hf := foldl_set q.1 (e p.2).cells.toList 0 cells (by simp at h2; omega)
    have e1 : (e p.2).cells.zipIdx.foldl (fun cs p => cs.setIfInBounds (q.1 + p.2) p.1) cells = ((e p.2).cells.toList.zipIdx 0).foldl (fun cs p => cs.setIfInBounds (q.1 + p.2) p.1) cells := by
      rw [← Array.foldl_toList, Array.toList_zipIdx]
    rw [hll, Nat.add_zero] at hf
    rw [← hf] at h4
    obtain ⟨cells', h5, h6⟩ := fill_rel he ps l' _ cs' r hl' h4 h
    refine ⟨cells', ?_, h6⟩
    rw [← h5]
    have hno : ((e p.2).cells.size ≠ q.2 || decide (q.1 + (e p.2).cells.size > cells.size)) = false := by
      simp at h2
      simp [h1]
      omega
    simp only [List.map_cons, Instr.fill, hq]
    rw [e1, hno]
    rfl

theorem s_build {ty : TypeId} {ps : Array (Nat × Operand)} {zs : List AV} {l : List (Nat × Nat × AR)} {place : Nat → Option (Nat × Nat)} (ho : o.op = .build ty ps) (hz : zeroOf P ty = some zs) (hpl : ∀ parts zv i, P.info? ty = some i → i.zero = some zv → P.built ty parts = Instr.fill place zv.cells parts) (hl : partsOf place ps.toList = some l) (he : EvRel ρ t e) (hw : WRel base ρ S w)
    (h : kBuild zs l t S c = some z) : OpVal P ρ S e o w c z := by
  obtain ⟨i, zv, hi, hzv, hc⟩ := zeroOf_some (ρ := ρ) hz
  obtain ⟨cs, hf, h⟩ := onSome_some h
  obtain ⟨cells', h1, h2⟩ := fill_rel he ps.toList l zv.cells zs cs hl hc hf
  refine .pure h hw (.agg h2) ?_
  have hb : P.built ty (ps.map fun (i, x) => (i, e x)).toList = some cells' := by
    rw [hpl _ zv i hi hzv, ← h1]
    congr 1
    simp
  have := run_build (P := P) w ty (ps.map fun (i, x) => (i, e x)) cells' hb
  simp [execOp, ho, this]

theorem built_array {ty el : TypeId} {n : Nat} {ie : TypeInfo} (hu : P.underlying ty = some (.array n el)) (hie : P.info? el = some ie) (parts : List (Nat × Value)) (zv : Value) (i : TypeInfo) (hi : P.info? ty = some i) (hz : i.zero = some zv) :
    P.built ty parts = Instr.fill (fun i => some (i * ie.size, ie.size)) zv.cells parts := by
  simp [Program.built, hi, hu, hz, hie]
theorem placesOf_some : ∀ {fs : List Field} {l : List (Nat × Nat)}, placesOf P fs = some l → fs.mapM (fun f => (P.info? f.type).map fun i => (f.offset, i.size)) = some l
  | [], l, h => by cases h; rfl
  | f :: fs, l, h => by
    simp only [placesOf, Option.bind_eq_some_iff, Option.map_eq_some_iff] at h
    obtain ⟨i, hi, l', hl', rfl⟩ := h
    simp [List.mapM_cons, hi, placesOf_some hl']
theorem built_struct {ty : TypeId} {fs : Array Field} {l : List (Nat × Nat)} (hu : P.underlying ty = some (.struct fs)) (hl : placesOf P fs.toList = some l) (parts : List (Nat × Value)) (zv : Value) (i : TypeInfo) (hi : P.info? ty = some i) (hz : i.zero = some zv) :
    P.built ty parts = Instr.fill (fun i => l[i]?) zv.cells parts := by
  have := placesOf_some hl
  simp [Program.built, hi, hu, hz, this]
end Go.Proofs.YtpllompnfhpfmaaGreatDoor.Exe
namespace Go.Proofs.YtpllompnfhpfmaaGreatDoor.Exe
open Go
variable {Lg : Laid} {base : Base Lg} {w : World} {P : Program} {ρ : Rho} {S : AS} {t : T} {e : Operand → Value} {o : Oper} {c : K} {z : AV × Option AS}

/-! ### Rows of noughts -/
theorem timesK_cells {zs : List AV} {us : List Value} (h : Cells ρ zs us) : ∀ n, Cells ρ (timesK n zs) ((List.replicate n us).flatten)
  | 0 => .nil
  | n + 1 => by
    rw [List.replicate_succ, List.flatten_cons]
    exact h.append (timesK_cells h n)
theorem byteVals_zero : ∀ n, byteVals n 0 = List.replicate n (.int .u8 0)
  | 0 => rfl
  | n + 1 => by
    show Value.int .u8 ((0 % 256 : Nat) : Int) :: byteVals n (0 / 256) = _
    rw [show 0 / 256 = 0 from rfl, byteVals_zero n, List.replicate_succ]
    rfl
theorem flatten_one {A : Type} (a : A) : ∀ n, (List.replicate n [a]).flatten = List.replicate n a
  | 0 => rfl
  | n + 1 => by rw [List.replicate_succ, List.flatten_cons, flatten_one a n]; rfl
theorem zerosK_cells {esz : Nat} {zs : List AV} {us : List Value} (h : Cells ρ zs us) (hl : us.length = esz) (n : Nat) : Cells ρ (zerosK esz n zs) ((List.replicate n us).flatten) := by
  unfold zerosK
  cases hb : Nat.beq esz 1 with
  | false => exact timesK_cells h n
  | true =>
    have hb := beq_true hb
    show Cells ρ (Option.rec (timesK n zs) (fun r => r) (theRun zs fun _ v => ifB (Nat.beq v 0) (some [.bytes n 0]) none)) _
    cases hr : (theRun zs fun _ v => ifB (Nat.beq v 0) (some [.bytes n 0]) none) with
    | none => exact timesK_cells h n
    | some r =>
      obtain ⟨l, v, rfl, h1⟩ := theRun_some hr
      obtain ⟨h2, h3⟩ := ifB_some h1
      have h2 := beq_true h2
      subst h2
      cases h3
      cases h with
      | bytes h' =>
        cases h'
        rw [List.append_nil] at hl ⊢
        rw [byteVals_length] at hl
        have : l = 1 := by omega
        subst this
        have e1 : byteVals 1 0 = [Value.int .u8 0] := rfl
        rw [e1, flatten_one]
        have := Cells.bytes (ρ := ρ) (l := n) (n := 0) .nil
        rwa [List.append_nil, byteVals_zero] at this
      | one o _ _ => exact Bool.noConfusion (show false = true from o)

theorem range_mod (zs : Array Value) (m : Nat) (hm : zs.size = m) : ∀ n, (List.range (n * m)).map (fun i => zs[i % zs.size]!) = (List.replicate n zs.toList).flatten
  | 0 => by simp
  | n + 1 => by
    have ih := range_mod zs m hm n
    rw [show (n + 1) * m = n * m + m by rw [Nat.add_mul]; omega, List.range_add, List.map_append, ih, List.replicate_succ', List.flatten_append]
    congr 1
    simp only [List.flatten_cons, List.flatten_nil, List.append_nil, List.map_map]
    apply List.ext_getElem
    · simp [hm]
    · intro i h1 h2
      have hi : i < m := by simpa using h1
      simp only [List.getElem_map, List.getElem_range, Function.comp, hm]
      have : (n * m + i) % m = i := by rw [Nat.mul_comm, Nat.mul_add_mod, Nat.mod_eq_of_lt hi]
      rw [this]
      have h3 : i < zs.size := by omega
      simp [h3]
theorem range_mod_array (zs : Array Value) (m n : Nat) (hm : zs.size = m) : (Array.range (n * m)).map (fun i => zs[i % zs.size]!) = ((List.replicate n zs.toList).flatten).toArray := by
  apply Array.toList_inj.1
  simp only [Array.toList_map, Array.toList_range]
  exact range_mod zs m hm n
theorem zeroCells_eq (zs : Array Value) (n : Nat) : Builtin.zeroCells zs n = ((List.replicate n zs.toList).flatten).toArray := range_mod_array zs zs.size n rfl

theorem fullZero_some {ty : TypeId} (h : fullZero P ty = true) {cs : List AV} (hz : zeroOf P ty = some cs) : ∃ i zv, P.info? ty = some i ∧ i.zero = some zv ∧ Cells ρ cs zv.cells.toList ∧ zv.cells.size = i.size ∧ sizeT P ty = i.size := by
  obtain ⟨i, zv, hi, hzv, hc⟩ := zeroOf_some (ρ := ρ) hz
  refine ⟨i, zv, hi, hzv, hc, ?_, ?_⟩
  · unfold fullZero at h
    rw [hi] at h
    simp only [Option.bind_some, hzv] at h
    have := beq_true h
    unfold sizeT at this
    rw [hi] at this
    simpa using this
  · unfold sizeT
    rw [hi]
    rfl

theorem run_askRoom (n : Nat) (w : World) : (askRoom n).run P w = .ok () w := by
  unfold askRoom mark
  split <;> rfl

theorem s_makeSlice {ty el : TypeId} {l k : Operand} {l' k' : AR} {zs : List AV} {bytes : Nat} (ho : o.op = .makeSlice ty l k) (hu : P.underlying ty = some (.slice el)) (hf : fullZero P el = true) (hz : zeroOf P el = some zs) (hb : (P.info? el).map (·.bytes) = some bytes)
    (hl : ofOperand l = some l') (hk : ofOperand k = some k') (h : kMakeSlice el (sizeT P el) bytes zs l' k' t S c = some z) :
    ∃ ob vf, (∀ S c, kMakeSlice el (sizeT P el) bytes zs l' k' t S c = newK S ob fun b S => c (vf b) S) ∧ ∀ ρ e w, EvRel ρ t e → OpMk P ρ e o w ob vf := by
  obtain ⟨kd, m, hvl, h1⟩ := onNat_some h
  obtain ⟨kd', n, hvk, h2⟩ := onNat_some (show onNat (ev k' t) _ = some z from h1)
  obtain ⟨c1, h3⟩ := ifB_some (show ifB (Nat.ble m n) _ none = some z from h2)
  obtain ⟨c2, h4⟩ := ifB_some h3
  obtain ⟨c3, h5⟩ := ifB_some h4
  refine ⟨.cells el (sizeT P el) (zerosK (sizeT P el) n zs), fun b => .sl b 0 m n false, fun S c => ?_, fun ρ e w he => ?_⟩
  · show onNat (ev l' t) _ = _
    rw [hvl, hvk]
    show ifB (Nat.ble m n) (ifB (Nat.ble (Nat.mul bytes n) 281474976710656) (ifB (Nat.ble n 4611686018427387904) _ none) none) none = _
    rw [c1, c2, c3]
    rfl
  · obtain ⟨i, zv, hi, hzv, hc, hs1, hs2⟩ := fullZero_some (ρ := ρ) hf hz
    have hbb : i.bytes = bytes := by rw [hi] at hb; simpa using hb
    have c1 := ble_true c1
    have c2 : bytes * n ≤ 281474976710656 := ble_true c2
    have c3 := ble_true c3
    have hdl := he l l' hl
    have hdk := he k k' hk
    rw [hvl] at hdl
    rw [hvk] at hdk
    generalize hel : e l = vl at hdl
    generalize hek : e k = vk at hdk
    cases hdl; cases hdk
    have hcells := zerosK_cells hc (esz := sizeT P el) (by rw [Array.length_toList, hs1, hs2]) n
    refine OpMk.cells (uf := fun r => .slice (some ⟨r, 0, none⟩) m n) hcells (fun ρ' b r hρ => Den.sl (cap := n) (op := false) hρ) ?_
    have w1 : IntKind.i64.wrap (m : Int) = m := wrap_small (k := .i64) (show m < 9223372036854775808 by omega)
    have w2 : IntKind.i64.wrap (n : Int) = n := wrap_small (k := .i64) (show n < 9223372036854775808 by omega)
    have hno : ¬ ((bytes : Int) * (n : Int) > 281474976710656) := by
      have : ((bytes * n : Nat) : Int) ≤ 281474976710656 := by omega
      rw [Int.natCast_mul] at this
      omega
    have hrm := range_mod_array zv.cells i.size n hs1
    simp only [execOp, ho, hel, hek, Instr.makeSlice]
    have e0 : ((n : Int) < 0) = False := by simp
    have e1 : ((m : Int) < 0) = False := by simp
    have e2 : ¬ ((n : Int) < (m : Int)) := by omega
    by_cases hn0 : n * i.size = 0
    · have hflat : ((List.replicate n zv.cells.toList).flatten).toArray = #[] := by rw [← hrm, hn0]; simp
      simp [run_underlying hu, asInt, asIntOf, typeInfo, hi, hbb, w1, w2, hno, e0, e1, e2, run_askRoom, sizeOf, hn0, newRow, hflat]
      exact congrArg (fun a => w.alloc (Obj.cells a el)) (Array.toList_inj.1 (by simp [Array.toList_range]))
    · simp [run_underlying hu, asInt, asIntOf, typeInfo, hi, hbb, w1, w2, hno, e0, e1, e2, run_askRoom, sizeOf, hn0, newRow, zeroValue, hzv, hrm]

/-- The literal of a slice, an empty one too. -/
theorem run_buildSlice' (w : World) (t e : TypeId) (len : Nat) (parts : Array (Nat × Value)) (cells : Array Value) (ie : TypeInfo) (z : Value)
    (hu : P.underlying t = some (.slice e)) (hie : P.info? e = some ie) (hz : ie.zero = some z) (hsmall : ¬ len * ie.size > 2 ^ 24)
    (h : Instr.fill (fun i => some (i * ie.size, ie.size)) ((Array.range (len * ie.size)).map (z.cells[· % z.cells.size]!)) parts.toList = some cells) :
    (Instr.buildSlice t len parts).run P w = .ok (.slice (some ⟨w.heap.size, 0, none⟩) len len) (w.alloc (.cells cells e)) := by
  by_cases hpos : len * ie.size = 0
  · rw [hpos] at h
    have e0 : ∀ f : Nat → Value, (Array.range 0).map f = #[] := fun f => by simp [Array.range]
    rw [e0] at h
    simp [Instr.buildSlice, run_underlying hu, sizeOf, typeInfo, hie, hpos, e0, h, newRow]
  · exact run_buildSlice w t e len parts cells ie z hu hie hz hsmall hpos h

theorem s_buildSlice {ty el : TypeId} {len : Nat} {ps : Array (Nat × Operand)} {l : List (Nat × Nat × AR)} {zs : List AV} (ho : o.op = .buildSlice ty len ps) (hu : P.underlying ty = some (.slice el)) (hf : fullZero P el = true) (hz : zeroOf P el = some zs) (h24 : len * sizeT P el ≤ 16777216)
    (hl : partsOf (fun i => some (i * sizeT P el, sizeT P el)) ps.toList = some l) (h : kBuildSlice el (sizeT P el) len zs l t S c = some z) :
    ∃ ob vf, (∀ S c, kBuildSlice el (sizeT P el) len zs l t S c = newK S ob fun b S => c (vf b) S) ∧ ∀ ρ e w, EvRel ρ t e → OpMk P ρ e o w ob vf := by
  obtain ⟨cs, hfill, h1⟩ := onSome_some h
  refine ⟨.cells el (sizeT P el) cs, fun b => .sl b 0 len len false, fun S c => ?_, fun ρ e w he => ?_⟩
  · show onSome (fillK (partsK l t) (zerosK (sizeT P el) len zs)) _ = _
    rw [hfill]
    rfl
  · obtain ⟨i, zv, hi, hzv, hc, hs1, hs2⟩ := fullZero_some (ρ := ρ) hf hz
    have hcells := zerosK_cells hc (esz := sizeT P el) (by rw [Array.length_toList, hs1, hs2]) len
    obtain ⟨cells', f1, f2⟩ := fill_rel he ps.toList l ((List.replicate len zv.cells.toList).flatten).toArray _ cs hl (by simpa using hcells) hfill
    have hrm := range_mod_array zv.cells i.size len hs1
    rw [hs2] at f1 h24
    have hrun := run_buildSlice' (P := P) w ty el len (ps.map fun (i, x) => (i, e x)) cells' i zv hu hi hzv (by omega) (by
      rw [hrm, ← f1]
      congr 1
      simp)
    refine OpMk.cells (us := cells'.toList) (uf := fun r => .slice (some ⟨r, 0, none⟩) len len) f2 (fun ρ' b r hρ => Den.sl (cap := len) (op := false) hρ) ?_
    simp [execOp, ho, hrun]
end Go.Proofs.YtpllompnfhpfmaaGreatDoor.Exe
namespace Go.Proofs.YtpllompnfhpfmaaGreatDoor.Exe
open Go
variable {Lg : Laid} {base : Base Lg} {w : World} {P : Program} {ρ : Rho} {S : AS} {t : T} {e : Operand → Value} {o : Oper} {c : K} {z : AV × Option AS}

/-! ### Rows read and written as a whole -/
theorem cells_read {r : Nat} {el : TypeId} {fz : Nat × Nat} {us tail : List Value} (hh : w.heap[r]? = some (.cells (us ++ tail).toArray el fz)) (q n : Nat) (hn : q + n ≤ us.length) :
    ∀ j v, ((us.drop q).take n)[j]? = some v → w.cell? ((⟨r, q, none⟩ : Addr).add j) = some v := fun j v hv => by
  rw [Addr.add_mid]
  have hj : j < n := by
    rcases Nat.lt_or_ge j n with h | h
    · exact h
    · rw [List.getElem?_eq_none (by simp; omega)] at hv; cases hv
  refine cell?_of hh ?_
  rw [List.getElem?_take_of_lt hj, List.getElem?_drop] at hv
  rw [List.getElem?_append_left (by omega)]
  exact hv
/-- A row written over. -/
theorem cells_write {r : Nat} {el : TypeId} {fz : Nat × Nat} {us tail : List Value} (hh : w.heap[r]? = some (.cells (us ++ tail).toArray el fz)) (hfz : FzOk fz (us.length + tail.length)) (off : Nat) (vs : List Value) (hlen : off + vs.length ≤ (us ++ tail).length) (h1 : ∀ v ∈ vs, v.oneCell' = true) :
    (storeCells ⟨r, off, none⟩ vs).run P w = .ok () (w.putObj r (.cells ((us ++ tail).take off ++ vs ++ (us ++ tail).drop (off + vs.length)).toArray el fz)) := by
  have hth := there_of hh (by rw [List.length_append]; exact hfz.free) off vs.length hlen
  have hrun := run_storeCells_cells (P := P) r off vs 0 w (fun j hj => by have := (hth j hj).1; simpa using this) (fun j hj => by have := (hth j hj).2; simpa using this) h1
  rw [hrun]
  congr 1
  exact setCells_heap r el fz vs off w (us ++ tail) hh hlen

theorem isSlK_true {v : AV} {u : Value} (h : isSlK v = true) (d : Den ρ v u) : ∃ b n cap, u = .slice b n cap ∧ ((v = .snil ∧ b = none ∧ n = 0 ∧ cap = 0) ∨ ∃ i q m k op, v = .sl i q m k op ∧ n = m) := by
  cases d <;> first | (exfalso; have h9 : (9 : Nat) = 1 := beq_true h; omega) | (exfalso; have h9 : (0 : Nat) = 1 := beq_true h; omega) | (exfalso; have h9 : (2 : Nat) = 1 := beq_true h; omega) | skip
  · exact ⟨_, _, _, rfl, .inl ⟨rfl, rfl, rfl, rfl⟩⟩
  · exact ⟨_, _, _, rfl, .inr ⟨_, _, _, _, _, rfl, rfl⟩⟩
  · exact ⟨_, _, _, rfl, .inr ⟨_, _, _, _, _, rfl, rfl⟩⟩

theorem s_copy {ty el : TypeId} {d s : Operand} {d' s' : AR} {ats : Array TypeId} {n : Nat} (ho : o.op = .call { callee := .builtin .copy, args := #[d, s], argTypes := ats }) (ha : ats[0]? = some ty) (hu : P.underlying ty = some (.slice el)) (hn : (P.info? el).map (·.size) = some n)
    (hd : ofOperand d = some d') (hs : ofOperand s = some s') (he : EvRel ρ t e) (hw : WRel base ρ S w) (h : kCopy n d' s' t S c = some z) : OpPost base P ρ S e o w c z := by
  have hdd := he d d' hd
  have hds := he s s' hs
  cases hq : P.info? el with
  | none => rw [hq] at hn; cases hn
  | some ti =>
  have hsz : ti.size = n := by rw [hq] at hn; simpa using hn
  have fin : ∀ {u : Value} {w' : World}, (Builtin.copy_ ats o.type #[e d, e s]).run P w = .ok u w' → (execOp e o).run P w = .ok (.value u) w' := fun hr => by
    simp [execOp, ho, resolve, invoke, builtin, hr]
  obtain ⟨k1, h⟩ := ifB_some h
  obtain ⟨bs, ns, cs, hes, hks⟩ := isSlK_true k1 hds
  have hls : (Builtin.lenOf (e s)).run P w = .ok ns w := by rw [hes]; rfl
  have first0 : ∀ m, m = 0 → (Builtin.firstCells ti.size m (e s)).run P w = .ok #[] w := fun m hm => by
    subst hm
    rw [hes]
    cases bs with
    | none => rfl
    | some a => simp [Builtin.firstCells, loadCells, loadCellsFrom]
  rcases ifB_or h with ⟨k2, h⟩ | ⟨_, h⟩
  · have hnil := isSnil_true k2
    rw [hnil] at hdd
    generalize hed : e d = vd at hdd fin
    cases hdd
    refine (OpVal.pure h hw (.int .i64 0) (fin ?_)).post hw
    have := first0 (Nat.min ns 0) (by simp)
    simp [Builtin.copy_, ha, run_underlying hu, hls, sizeOf, typeInfo, hq, this, goInt]
    simp at this
    simp [this]
  · rcases ifB_or h with ⟨k2, h⟩ | ⟨_, h⟩
    · have hnil := isSnil_true k2
      obtain ⟨k3, h⟩ := ifB_some h
      obtain ⟨bd, nd, cd, hed, _⟩ := isSlK_true k3 hdd
      have h0 : ns = 0 := by
        rcases hks with ⟨_, _, h, _⟩ | ⟨_, _, _, _, _, h, _⟩
        · exact h
        · rw [hnil] at h; cases h
      refine (OpVal.pure h hw (.int .i64 0) (fin ?_)).post hw
      have := first0 (Nat.min ns nd) (by simp [h0])
      subst h0
      rw [hed]
      cases bd with
      | none => simp [Builtin.copy_, ha, run_underlying hu, hls, sizeOf, typeInfo, hq, goInt]; simp at this; simp [this]
      | some a => simp [Builtin.copy_, ha, run_underlying hu, hls, sizeOf, typeInfo, hq, goInt]; simp at this; simp [this, storeCells]
    · obtain ⟨b, q, nd, cd, od, hvd, h⟩ := onSl_some h
      obtain ⟨b2, q2, ns2, cs2, os2, hvs, h⟩ := onSl_some (show onSl (ev s' t) _ = some z from h)
      rw [hvd] at hdd
      rw [hvs] at hds
      generalize hed : e d = vd at hdd fin
      generalize hes2 : e s = vs at hds fin first0 hls hes
      cases hdd with
      | @sl0 _ _ r x o' C hρ =>
        have hns : ns2 = ns := by cases hds <;> (cases hes; rfl)
        subst hns
        obtain ⟨A2, C2, hv2⟩ : ∃ A C, vs = .slice (some A) ns2 C := by cases hds <;> exact ⟨_, _, rfl⟩
        subst hv2
        rw [forceN_eq] at h
        have h0 : (ifB (Nat.ble ns2 0) ns2 0 : Nat) = 0 := by
          cases hb : Nat.ble ns2 0 with
          | true => have := ble_true hb; show ns2 = 0; omega
          | false => rfl
        rw [h0] at h
        have h : c (.int .i64 0) S = some z := h
        refine (OpVal.pure h hw (.int .i64 0) (fin ?_)).post hw
        have h9 := first0 0 rfl
        simp [Builtin.copy_, ha, run_underlying hu, hls, sizeOf, typeInfo, hq, goInt, Builtin.lenOf]
        simp [h9, storeCells]
      | @sl _ _ _ _ r x _ hρ =>
      cases hds with
      | @sl0 _ _ r2 x2 o' C hρ2 =>
        have hns : 0 = ns := by cases hes; rfl
        subst hns
        rw [forceN_eq] at h
        have h : c (.int .i64 0) S = some z := h
        refine (OpVal.pure h hw (.int .i64 0) (fin ?_)).post hw
        have h9 := first0 0 rfl
        simp [Builtin.copy_, ha, run_underlying hu, hls, sizeOf, typeInfo, hq, goInt, Builtin.lenOf]
        simp [h9, storeCells]
      | @sl _ _ _ _ r2 x2 _ hρ2 =>
      have hns : ns2 = ns := by cases hes; rfl
      subst hns
      rw [forceN_eq] at h
      have hmin : ifB (Nat.ble ns2 nd) ns2 nd = Nat.min ns2 nd := by
        cases hb : Nat.ble ns2 nd with
        | true => have := ble_true hb; show ns2 = min ns2 nd; omega
        | false => have := ble_false hb; show nd = min ns2 nd; omega
      rw [hmin] at h
      rcases ifB_or h with ⟨k3, h⟩ | ⟨k3, h⟩
      · have h0 : Nat.min ns2 nd = 0 := beq_true k3
        refine (OpVal.pure h hw (.int .i64 0) (fin ?_)).post hw
        have h9 := first0 (Nat.min ns2 nd) h0
        simp [Builtin.copy_, ha, run_underlying hu, hls, sizeOf, typeInfo, hq, goInt, Builtin.lenOf]
        simp at h9 h0
        simp [h9, storeCells, h0]
      · obtain ⟨el2, z2, cs', hb2, h⟩ := onCells_some h
        obtain ⟨l, hl, h⟩ := onSome_some h
        obtain ⟨el1, z1, ds, hb1, h⟩ := onCells_some h
        obtain ⟨ds', hds', h⟩ := onSome_some h
        obtain ⟨us2, tail2, fz2, hh2, hc2, _, _⟩ := hw.cells hb2 hρ2
        obtain ⟨us1, tail1, fz1, hh1, hc1, ht1, hf1⟩ := hw.cells hb1 hρ
        obtain ⟨hlen2, hcl⟩ := segsK_some hc2 hl
        have hlen2 : q2 + Nat.min ns2 nd * n ≤ us2.length := hlen2
        have hcl : Cells ρ l ((us2.drop q2).take (Nat.min ns2 nd * n)) := hcl
        have hnl : ((us2.drop q2).take (Nat.min ns2 nd * n)).length = Nat.min ns2 nd * n := by rw [List.length_take, List.length_drop]; omega
        obtain ⟨hlen1, hcs'⟩ := setSegsK_some hc1 hcl hnl hds'
        have hlen1 : q + Nat.min ns2 nd * n ≤ us1.length := hlen1
        have hfc := run_firstCells_some (P := P) w ti.size (Nat.min ns2 nd) ⟨r2, q2, none⟩ ns2 (if os2 = true then cs2 + x2 else cs2) ((us2.drop q2).take (Nat.min ns2 nd * n)) (by rw [hnl, hsz]) (cells_read hh2 q2 _ hlen2)
        have hst := cells_write (P := P) hh1 hf1 q ((us2.drop q2).take (Nat.min ns2 nd * n)) (by rw [hnl, List.length_append]; omega) (fun v hv => hc2.oneCell v (List.mem_of_mem_drop (List.mem_of_mem_take hv)))
        have e1 : (us1 ++ tail1).take q ++ (us2.drop q2).take (Nat.min ns2 nd * n) ++ (us1 ++ tail1).drop (q + ((us2.drop q2).take (Nat.min ns2 nd * n)).length) = (us1.take q ++ (us2.drop q2).take (Nat.min ns2 nd * n) ++ us1.drop (q + Nat.min ns2 nd * n)) ++ tail1 := by
          rw [hnl, List.take_append_of_le_length (by omega), List.drop_append_of_le_length (by omega)]
          simp
        rw [e1] at hst
        have hlen3 : (us1.take q ++ (us2.drop q2).take (Nat.min ns2 nd * n) ++ us1.drop (q + Nat.min ns2 nd * n)).length = us1.length := by
          rw [List.length_append, List.length_append, hnl, List.length_take, List.length_drop]; omega
        refine ⟨_, _, ρ, _, .int .i64 (Nat.min ns2 nd : Nat), h, ρ.le_refl, .put hρ, hw.put ⟨_, hb1⟩ hρ (.cells hcs' ht1 (by rw [hlen3]; exact hf1)), .int _ _, .inl (fin ?_)⟩
        simp [Builtin.copy_, ha, run_underlying hu, hls, sizeOf, typeInfo, hq, goInt]
        simp at hfc hst
        simp [hfc, hst]
end Go.Proofs.YtpllompnfhpfmaaGreatDoor.Exe
namespace Go.Proofs.YtpllompnfhpfmaaGreatDoor.Exe
open Go
variable {Lg : Laid} {base : Base Lg} {w : World} {P : Program} {ρ : Rho} {S : AS} {t : T} {e : Operand → Value} {o : Oper} {c : K} {z : AV × Option AS}

theorem run_markStringish {r off : Nat} {us : List Value} {el : TypeId} {fz : Nat × Nat} (hh : w.heap[r]? = some (.cells us.toArray el fz)) (hfz : FzOk fz us.length) :
    ∃ fz', FzOk fz' us.length ∧ (markStringish ⟨r, off, none⟩).run P w = .ok () (w.putObj r (.cells us.toArray el fz')) := by
  have hlt : r < w.heap.size := (Array.getElem?_eq_some_iff.1 hh).1
  refine ⟨if fz.1 == fz.2 then (us.length, us.length + 1) else (min fz.1 us.length, max fz.2 (us.length + 1)), ?_, ?_⟩
  · unfold FzOk
    split
    · exact .inr (Nat.le_refl _)
    · rename_i hne
      rcases hfz with h | h
      · simp [h] at hne
      · exact .inr (by show us.length ≤ min fz.1 us.length; omega)
  · obtain ⟨lo, hi⟩ := fz
    have hsh : w.shape? r = some (el, us.length) := by unfold World.shape?; simp [hh]
    have hfr : w.freeze { block := r, off := us.length } 1 = w.putObj r (.cells us.toArray el (if lo == hi then (us.length, us.length + 1) else (min lo us.length, max hi (us.length + 1)))) := by
      unfold World.freeze World.putObj
      rw [if_neg (by omega)]
      congr 1
      apply Array.ext_getElem?
      intro i
      by_cases hi' : i = r
      · subst hi'
        rw [Array.getElem?_setIfInBounds_self_of_lt hlt, Array.getElem?_modify, if_pos rfl, hh]
        rfl
      · rw [Array.getElem?_setIfInBounds_ne (fun e => hi' e.symm), Array.getElem?_modify]
        split
        · rename_i e; exact absurd e.symm hi'
        · rfl
    simp only [markStringish, shape, freeze, Sem.run_bind, Sem.run, hsh, Result.andThen_ok, hfr]

theorem s_mark {sr : TypeId} {el : TypeId} {x : Operand} {x' : AR} (ho : o.op = .convert sr sr x) (hu : P.underlying sr = some (.slice el)) (hel : P.underlying el = some (.int .u8)) (hx : ofOperand x = some x') (he : EvRel ρ t e) (hw : WRel base ρ S w) (h : kMark x' t S c = some z) : OpPost base P ρ S e o w c z := by
  obtain ⟨b, q, n, cap, op, hv, h⟩ := onSl_some h
  obtain ⟨el', es, cs, hb, h⟩ := onCells_some h
  have hdx := he x x' hx
  rw [hv] at hdx h
  generalize hex : e x = ex at hdx
  cases hdx with
  | @sl _ _ _ _ r x2 _ hρ =>
    obtain ⟨us, tail, fz, hh, hc, ht, hf⟩ := hw.cells hb hρ
    obtain ⟨fz', hf', hrun⟩ := run_markStringish (P := P) (off := q) hh (by rw [List.length_append]; exact hf)
    rw [List.length_append] at hf'
    refine ⟨_, _, ρ, _, _, h, ρ.le_refl, .put hρ, hw.put ⟨_, hb⟩ hρ (.cells hc ht hf'), .sl hρ, .inl ?_⟩
    simp [execOp, ho, hex, convert, run_underlying hu, run_underlying hel, hrun]
  | @sl0 _ _ r x2 o' C hρ =>
    obtain ⟨us, tail, fz, hh, hc, ht, hf⟩ := hw.cells hb hρ
    obtain ⟨fz', hf', hrun⟩ := run_markStringish (P := P) (off := o') hh (by rw [List.length_append]; exact hf)
    rw [List.length_append] at hf'
    refine ⟨_, _, ρ, _, _, h, ρ.le_refl, .put hρ, hw.put ⟨_, hb⟩ hρ (.cells hc ht hf'), .sl0 (o' := o') (c := C) hρ, .inl ?_⟩
    simp [execOp, ho, hex, convert, run_underlying hu, run_underlying hel, hrun]

theorem packK_vals : ∀ (l : List UInt8), byteVals l.length (packK l) = l.map fun b => Value.int .u8 (b.toNat : Int)
  | [] => rfl
  | b :: l => by
    have e : packK (b :: l) = b.toNat + 256 * packK l := rfl
    have hb : b.toNat < 256 := b.toNat_lt
    show Value.int .u8 ((packK (b :: l) % 256 : Nat) : Int) :: byteVals l.length (packK (b :: l) / 256) = _
    rw [e, Nat.add_mul_mod_self_left, Nat.mod_eq_of_lt hb, Nat.add_mul_div_left _ _ (by omega), Nat.div_eq_of_lt hb, Nat.zero_add, packK_vals l]
    rfl

theorem WRel.drew' (h : WRel base ρ S w) : WRel base ρ S { w with drawn := w.drawn + 1 } := h.drew

theorem alloc_last (w1 : World) (u : Obj) : (w1.alloc u).heap[w1.heap.size]? = some u := by
  show (w1.heap.push u)[w1.heap.size]? = _; simp
theorem alloc_put (w1 : World) (u v : Obj) : (w1.alloc u).putObj w1.heap.size v = w1.alloc v := by
  unfold World.alloc World.putObj
  congr 1
  apply Array.ext_getElem?
  intro i
  by_cases hi : i = w1.heap.size
  · subst hi
    rw [Array.getElem?_setIfInBounds_self_of_lt (by simp)]
    simp
  · rw [Array.getElem?_setIfInBounds_ne (fun e => hi e.symm), Array.getElem?_push, Array.getElem?_push]
    simp [hi]

theorem s_toBytes {sr ds el : TypeId} {x : Operand} {x' : AR} (ho : o.op = .convert sr ds x) (hu : P.underlying sr = some .string) (hd : P.underlying ds = some (.slice el)) (hel : P.underlying el = some (.int .u8)) (hx : ofOperand x = some x')
    (h : kToBytes el x' t S c = some z) : ∃ ob vf, (∀ S c, kToBytes el x' t S c = newK S ob fun b S => c (vf b) S) ∧ ∀ ρ e w, EvRel ρ t e → OpMk P ρ e o w ob vf := by
  obtain ⟨s, hv, h⟩ := onStr_some h
  refine ⟨.cells el 1 [.bytes s.size (packK s.data.toList)], fun b => .sl b 0 s.size s.size true, fun S c => ?_, fun ρ e w he => ?_⟩
  · show onStr (ev x' t) _ = _
    rw [hv]
    rfl
  have hdx := he x x' hx
  rw [hv] at hdx
  generalize hex : e x = ex at hdx
  cases hdx
  -- the capacity that the tape says
  obtain ⟨n, hnd⟩ : ∃ n, n = (Question.appendCap s.size 0 el).cut (w.tape w.drawn (.appendCap s.size 0 el)) := ⟨_, rfl⟩
  have hn : s.size ≤ n := by rw [hnd]; exact Nat.le_add_right _ _
  let us : List Value := (s.data.map fun b => Value.int .u8 b.toNat).toList
  let tail : List Value := List.replicate (n - s.size) (.int .u8 0)
  have hul : us.length = s.size := by show ((s.data.map fun b => Value.int .u8 b.toNat).toList).length = _; simp
  have hcells : Cells ρ [.bytes s.size (packK s.data.toList)] us := by
    have h1 := packK_vals s.data.toList
    have h2 : byteVals s.size (packK s.data.toList) = us := by
      rw [show s.size = s.data.toList.length by simp]
      rw [h1]
      show _ = (s.data.map fun b => Value.int .u8 (b.toNat : Int)).toList
      rw [Array.toList_map]
    have := Cells.bytes (ρ := ρ) (l := s.size) (n := packK s.data.toList) .nil
    rwa [List.append_nil, h2] at this
  have hnew : (w.drew.alloc (.cells (us ++ tail).toArray el)).heap[w.drew.heap.size]? = some (.cells (us ++ tail).toArray el (0, 0)) := alloc_last _ _
  obtain ⟨fz', hf', hrun⟩ := run_markStringish (P := P) (off := 0) hnew (.inl rfl)
  rw [List.length_append] at hf'
  have hs : (w.drew.alloc (.cells (us ++ tail).toArray el)).putObj w.drew.heap.size (.cells (us ++ tail).toArray el fz') = w.drew.alloc (.cells (us ++ tail).toArray el fz') := alloc_put _ _ _
  rw [hs] at hrun
  refine ⟨n - s.size, .cells (us ++ tail).toArray el fz', .slice (some ⟨w.heap.size, 0, none⟩) s.size n, w.drew, .inr rfl, fun ρ' hle => .cells (hcells.mono hle) (by simp [tail]) hf', fun ρ' b hb => ?_, ?_⟩
  · have := Den.sl (ρ := ρ') (b := b) (o := 0) (len := s.size) (cap := s.size) (op := true) hb
    rw [if_pos rfl, show s.size + (n - s.size) = n by omega] at this
    exact this
  · have hforced : (Question.appendCap s.size 0 el).forced = false := rfl
    have harr : (s.data.map fun b => Value.int .u8 (b.toNat : Int)) ++ Array.replicate (n - s.size) (.int .u8 0) = (us ++ tail).toArray := by
      apply Array.toList_inj.1
      simp [us, tail]
    simp only [execOp, ho, hex, convert, Sem.run_bind, run_underlying hu, run_underlying hd, run_underlying hel, Result.andThen_ok, Conv.stringToBytes, choose, newRow, newObj]
    simp only [Sem.run, hforced, Bool.false_eq_true, if_false, Result.andThen_ok]
    rw [← hnd, harr]
    have hrun' : (markStringish ⟨w.heap.size, 0, none⟩).run P { heap := w.heap.push (.cells (us ++ tail).toArray el), tape := w.tape, drawn := w.drawn + 1, os := w.os, output := w.output } = _ := hrun
    simp only [Sem.run_pure, Result.andThen_ok, hrun']

/-! ### Bytes to a string -/
theorem vals_unpack : ∀ (l n : Nat), byteVals l n = (unpackK l n).map fun b => Value.int .u8 (b.toNat : Int)
  | 0, _ => rfl
  | l + 1, n => by
    show Value.int .u8 ((n % 256 : Nat) : Int) :: byteVals l (n / 256) = Value.int .u8 (((UInt8.ofNat (n % 256)).toNat : Nat) : Int) :: (unpackK l (n / 256)).map _
    rw [vals_unpack l]
    congr 2
    simp
theorem run_pushes (g : Value → ByteArray → Sem (ForInStep ByteArray)) (hg : ∀ (b : UInt8) (s : ByteArray), g (.int .u8 (b.toNat : Int)) s = pure (.yield (s.push b))) : ∀ (bs : List UInt8) (acc : ByteArray) (w : World),
    (forIn (bs.map fun b => Value.int .u8 (b.toNat : Int)) acc g).run P w = .ok ⟨⟨acc.data.toList ++ bs⟩⟩ w
  | [], acc, w => by
    simp
  | b :: bs, acc, w => by
    rw [List.map_cons, List.forIn_cons, hg]
    simp only [Sem.run_bind, Sem.run_pure, Result.andThen_ok]
    rw [run_pushes g hg bs]
    simp
theorem runStr_some {cs : List AV} {k : ByteArray → R} (h : runStr cs k = some z) : (cs = [] ∧ k ⟨#[]⟩ = some z) ∨ ∃ l m, cs = [.bytes l m] ∧ k ⟨⟨unpackK l m⟩⟩ = some z := by
  cases cs with
  | nil => exact .inl ⟨rfl, h⟩
  | cons x r =>
    cases r with
    | cons _ _ => cases h
    | nil =>
      obtain ⟨l, m, rfl, h9⟩ := onBytes_some (show onBytes x (fun l m => unpackC l m fun s => k ⟨⟨s⟩⟩) = some z from h)
      rw [unpackC_eq] at h9
      exact .inr ⟨l, m, rfl, h9⟩
theorem s_toStr {sr ds el : TypeId} {x : Operand} {x' : AR} (ho : o.op = .convert sr ds x) (hu : P.underlying sr = some (.slice el)) (hd : P.underlying ds = some .string) (hel : P.underlying el = some (.int .u8)) (hx : ofOperand x = some x') (he : EvRel ρ t e) (hw : WRel base ρ S w)
    (h : kToStr x' t S c = some z) : OpVal P ρ S e o w c z := by
  have hdx := he x x' hx
  rcases ifB_or h with ⟨hs, h⟩ | ⟨_, h⟩
  · have hs := isSnil_true hs
    rw [hs] at hdx
    generalize hex : e x = ex at hdx
    cases hdx
    refine .pure h hw (.str _) ?_
    simp only [execOp, ho, hex, convert, Sem.run_bind, run_underlying hu, run_underlying hd, run_underlying hel, Result.andThen_ok, Conv.bytesToString]
    rfl
  · obtain ⟨b, off, len, cap, op, hv, h⟩ := onSl_some h
    rcases ifB_or h with ⟨hl0, h⟩ | ⟨hl0, h⟩
    · have hl0 : len = 0 := beq_true hl0
      subst hl0
      rw [hv] at hdx
      generalize hex : e x = ex at hdx
      have key : ∀ (a : Addr) (C : Nat), ex = .slice (some a) 0 C → (execOp e o).run P w = .ok (.value (.string ⟨#[]⟩)) w := fun a C hxe => by
        rw [hxe] at hex
        simp only [execOp, ho, hex, convert, Sem.run_bind, run_underlying hu, run_underlying hd, run_underlying hel, Result.andThen_ok, Conv.bytesToString]
        rfl
      cases hdx with
      | sl _ => exact .pure h hw (.str _) (key _ _ rfl)
      | sl0 _ => exact .pure h hw (.str _) (key _ _ rfl)
    have hl0 := beq_false hl0
    obtain ⟨e', z', cs, hb, h⟩ := onCells_some h
    obtain ⟨sg, hsg, h⟩ := onSome_some h
    rw [hv] at hdx
    generalize hex : e x = ex at hdx
    cases hdx with
    | sl0 => exact absurd rfl hl0
    | @sl _ _ _ _ r q _ hρ =>
      obtain ⟨us, tail, fz, hh, hc, _, _⟩ := hw.cells hb hρ
      obtain ⟨hlen, hcs⟩ := segsK_some hc hsg
      have hr := rangeAt_of hh off len
      have e1 : ((us ++ tail).drop off).take len = (us.drop off).take len := by
        rw [List.drop_append_of_le_length (by omega), List.take_append_of_le_length (by rw [List.length_drop]; omega)]
      rw [e1] at hr
      have hl : ((us.drop off).take len).length = len := by rw [List.length_take, List.length_drop]; omega
      have hload : (loadCells ⟨r, off, none⟩ len).run P w = .ok ((us.drop off).take len).toArray w := by
        have := run_loadCells_list (P := P) (w := w) ⟨r, off, none⟩ ((us.drop off).take len) (fun j v hj => by
          have := hr j v hj
          rwa [Addr.add_mid r off j])
        rwa [hl] at this
      have key : ∀ bs : List UInt8, (us.drop off).take len = bs.map (fun b => Value.int .u8 (b.toNat : Int)) → (execOp e o).run P w = .ok (.value (.string ⟨⟨bs⟩⟩)) w := fun bs hbs => by
        simp only [execOp, ho, hex, convert, Sem.run_bind, run_underlying hu, run_underlying hd, run_underlying hel, Result.andThen_ok, Conv.bytesToString, hload]
        rw [← Array.forIn_toList]
        simp only [List.toList_toArray]
        rw [hbs, run_pushes (P := P) _ (fun b s => ?hg) bs ByteArray.empty w]
        · rfl
        · show pure (ForInStep.yield (s.push (UInt8.ofNat (b.toNat : Int).toNat))) = _
          simp
      rcases runStr_some h with ⟨rfl, h9⟩ | ⟨l, m, rfl, h9⟩
      · have h0 : (us.drop off).take len = [] := by
          generalize (us.drop off).take len = l at hcs
          cases hcs; rfl
        exact .pure h9 hw (.str _) (key [] (by rw [h0]; rfl))
      · have h0 : (us.drop off).take len = byteVals l m := by
          generalize (us.drop off).take len = l at hcs
          cases hcs with
          | @bytes _ _ _ us' h2 => cases h2; simp
          | one o d _ => cases o
        exact .pure h9 hw (.str _) (key _ (by rw [h0, vals_unpack]))
end Go.Proofs.YtpllompnfhpfmaaGreatDoor.Exe
namespace Go.Proofs.YtpllompnfhpfmaaGreatDoor.Exe
open Go
variable {Lg : Laid} {base : Base Lg} {w : World} {P : Program} {ρ : Rho} {S : AS} {t : T} {e : Operand → Value} {o : Oper} {c : K} {z : AV × Option AS}

theorem s_clear {ty : TypeId} {d : TypeDesc} {x : Operand} {x' : AR} {ats : Array TypeId} {esz : Nat} {zs : List AV} (ho : o.op = .call { callee := .builtin .clear, args := #[x], argTypes := ats }) (ha : ats[0]? = some ty) (hu : P.underlying ty = some d)
    (hd : 0 < esz → ∃ el, d = .slice el ∧ fullZero P el = true ∧ zeroOf P el = some zs ∧ esz = sizeT P el) (hx : ofOperand x = some x') (he : EvRel ρ t e) (hw : WRel base ρ S w) (h : kClear esz zs x' t S c = some z) : OpPost base P ρ S e o w c z := by
  have hdx := he x x' hx
  have fin : ∀ {u : Value} {w' : World}, (Builtin.clear_ ats o.type #[e x]).run P w = .ok u w' → (execOp e o).run P w = .ok (.value u) w' := fun hr => by
    simp [execOp, ho, resolve, invoke, builtin, hr]
  rcases ifB_or h with ⟨_, h⟩ | ⟨_, h⟩
  · obtain ⟨b, hv, h⟩ := onMap_some h
    obtain ⟨es, k, hb, h⟩ := onMapO_some h
    rw [hv] at hdx
    generalize hex : e x = ex at hdx fin
    cases hdx with
    | @map _ r q hρ =>
      obtain ⟨ms, hm, hE⟩ := hw.map hb hρ
      refine ⟨_, _, ρ, _, _, h, ρ.le_refl, .put hρ, hw.put (u := .map #[] k) ⟨_, hb⟩ hρ (.map .nil), .tup .nil, .inl (fin ?_)⟩
      simp [Builtin.clear_, ha, run_underlying hu, run_getObj_map hm, run_setObj _ hm]
  · rcases ifB_or h with ⟨k1, h⟩ | ⟨_, h⟩
    · have hnil := isSnil_true k1
      rw [hnil] at hdx
      generalize hex : e x = ex at hdx fin
      cases hdx
      refine (OpVal.pure h hw (.tup .nil) (fin ?_)).post hw
      simp [Builtin.clear_, ha, run_underlying hu]
    · obtain ⟨b, q, n, cap, op, hv, h⟩ := onSl_some h
      rw [hv] at hdx
      generalize hex : e x = ex at hdx fin
      cases hdx with
      | @sl0 _ _ r x2 o' C hρ =>
        rcases ifB_or h with ⟨k1, h⟩ | ⟨k1, h⟩
        · refine (OpVal.pure h hw (.tup .nil) (fin ?_)).post hw
          simp [Builtin.clear_, ha, run_underlying hu]
        · exact absurd rfl (beq_false k1)
      | @sl _ _ _ _ r x2 _ hρ =>
        rcases ifB_or h with ⟨k1, h⟩ | ⟨k1, h⟩
        · have := beq_true k1
          subst this
          refine (OpVal.pure h hw (.tup .nil) (fin ?_)).post hw
          simp [Builtin.clear_, ha, run_underlying hu]
        · have hn0 := beq_false k1
          obtain ⟨k2, h⟩ := ifB_some h
          have hpos : 0 < esz := ble_true k2
          obtain ⟨el, rfl, hfz0, hz, he2⟩ := hd hpos
          obtain ⟨i, zv, hi, hzv, hc, hs1, hs2⟩ := fullZero_some (ρ := ρ) hfz0 hz
          obtain ⟨el', es, cs, hb, h⟩ := onCells_some h
          obtain ⟨cs', hcs, h⟩ := onSome_some h
          obtain ⟨us, tail, fz, hh, hcu, ht, hf⟩ := hw.cells hb hρ
          have hzc := zerosK_cells hc (esz := esz) (by rw [Array.length_toList, hs1, he2, hs2]) n
          have hzl : ((List.replicate n zv.cells.toList).flatten).length = n * esz := by simp [hs1, he2, hs2]
          obtain ⟨h1, h2⟩ := setSegsK_some hcu hzc hzl hcs
          have h1 : q + n * esz ≤ us.length := h1
          have hst := cells_write (P := P) hh hf q ((List.replicate n zv.cells.toList).flatten) (by rw [hzl, List.length_append]; omega) (fun v hv => hzc.oneCell v hv)
          have e1 : (us ++ tail).take q ++ (List.replicate n zv.cells.toList).flatten ++ (us ++ tail).drop (q + ((List.replicate n zv.cells.toList).flatten).length) = (us.take q ++ (List.replicate n zv.cells.toList).flatten ++ us.drop (q + n * esz)) ++ tail := by
            rw [hzl, List.take_append_of_le_length (by omega), List.drop_append_of_le_length (by omega)]
            simp
          rw [e1] at hst
          have hlen3 : (us.take q ++ (List.replicate n zv.cells.toList).flatten ++ us.drop (q + n * esz)).length = us.length := by
            rw [List.length_append, List.length_append, hzl, List.length_take, List.length_drop]; omega
          refine ⟨_, _, ρ, _, _, h, ρ.le_refl, .put hρ, hw.put ⟨_, hb⟩ hρ (.cells h2 ht (by rw [hlen3]; exact hf)), .tup .nil, .inl (fin ?_)⟩
          have hzc' := zeroCells_eq zv.cells n
          simp only [Builtin.clear_, List.getElem?_toArray, List.getElem?_cons_zero, ha, Sem.run_bind, run_underlying hu, Result.andThen_ok]
          have hn1 : ∃ k, n = k + 1 := ⟨n - 1, by omega⟩
          obtain ⟨k, rfl⟩ := hn1
          simp [zeroValue, typeInfo, hi, hzv, hzc', hst]

/-! ### append -/
theorem joinK_cells {a b : List AV} {us vs : List Value} (f : Bool) (ha : Cells ρ a us) (hb : Cells ρ b vs) : Cells ρ (joinK f a b) (us ++ vs) := by
  cases f with
  | false => exact ha.append hb
  | true =>
    show Cells ρ (appK a b) (us ++ vs)
    have glue : ∀ {c : AV} {xs ys : List Value}, (xs.length = widthK c) → ((isOne c = true ∧ ∃ u, xs = [u] ∧ Den ρ c u) ∨ (∃ l n, c = .bytes l n ∧ xs = byteVals l n)) → ∀ {b : List AV}, Cells ρ b ys → Cells ρ (glueK c b) (xs ++ ys) := by
      intro c xs ys _ hx b hb
      have plain : Cells ρ (c :: b) (xs ++ ys) := by
        rcases hx with ⟨o, u, rfl, d⟩ | ⟨l, n, rfl, rfl⟩
        · exact .one o d hb
        · exact .bytes hb
      unfold glueK
      cases hg : (onBytes c fun l m => List.rec (motive := fun _ => Option (List AV)) none (fun d ds _ => onBytes d fun k n => some (.bytes (Nat.add l k) (Nat.add (Nat.mod m (Nat.pow 256 l)) (Nat.mul n (Nat.pow 256 l))) :: ds)) b) with
      | none => exact plain
      | some r =>
        obtain ⟨l, m, rfl, hg⟩ := onBytes_some hg
        cases b with
        | nil => cases hg
        | cons d ds =>
          obtain ⟨k, n, rfl, hg⟩ := onBytes_some (show onBytes d (fun k n => some (.bytes (Nat.add l k) (Nat.add (Nat.mod m (Nat.pow 256 l)) (Nat.mul n (Nat.pow 256 l))) :: ds)) = some r from hg)
          cases hg
          rcases hx with ⟨o, _⟩ | ⟨l', m', e, rfl⟩
          · exact Bool.noConfusion (show false = true from o)
          · cases e
            cases hb with
            | @bytes _ _ _ us' hb =>
              have e3 : byteVals (l + k) (m % 256 ^ l + n * 256 ^ l) = byteVals l m ++ byteVals k n := by
                rw [byteVals_add, Nat.mul_comm n, byteVals_low, byteVals_mod, Nat.add_mul_div_left _ _ (Nat.pow_pos (by omega)), Nat.div_eq_of_lt (Nat.mod_lt _ (Nat.pow_pos (by omega))), Nat.zero_add]
              have := Cells.bytes (ρ := ρ) (l := l + k) (n := m % 256 ^ l + n * 256 ^ l) hb
              rw [e3, List.append_assoc] at this
              exact this
            | one o _ _ => exact Bool.noConfusion (show false = true from o)
    induction a generalizing us with
    | nil => cases ha; exact hb
    | cons c r ih =>
      obtain ⟨xs, ys, rfl, hl, hr, hx⟩ := ha.head
      cases r with
      | nil =>
        cases hr
        rw [List.append_nil]
        exact glue hl hx hb
      | cons d r' =>
        have := ih hr
        show Cells ρ (c :: appK (d :: r') b) _
        rw [List.append_assoc]
        rcases hx with ⟨o, u, rfl, dd⟩ | ⟨l, n, rfl, rfl⟩
        · exact .one o dd this
        · exact .bytes this

theorem run_append_room' {ty tx e' el : TypeId} {i : TypeInfo} {bs : Option Addr} {sLen sCap n : Nat} {x : Value} {news : List Value} {w' : World} (ht : P.underlying ty = some (.slice el)) (hx : P.underlying tx = some (.slice e') ∨ P.underlying tx = some .string) (hi : P.info? el = some i) (rty : TypeId) (ats : Array TypeId) (ha : ats[0]? = some ty) (ha1 : ats[1]? = some tx)
    (hl : (Builtin.lenOf x).run P w = .ok n w) (hfc : (Builtin.firstCells i.size n x).run P w = .ok news.toArray w) (hroom : sLen + n ≤ sCap)
    (hst : match bs with | some a => (storeCells (a.add (sLen * i.size)) news).run P w = .ok () w' | none => w' = w) :
    (Builtin.append_ ats rty #[.slice bs sLen sCap, x]).run P w = .ok (.slice bs (sLen + n) sCap) w' := by
  cases bs with
  | none =>
    simp only at hst
    subst hst
    rcases hx with hx | hx <;> simp [Builtin.append_, ha, ha1, run_underlying ht, run_underlying hx, sizeOf, typeInfo, hi, hl, hroom, hfc]
  | some a =>
    simp only at hst
    rcases hx with hx | hx <;> simp [Builtin.append_, ha, ha1, run_underlying ht, run_underlying hx, sizeOf, typeInfo, hi, hl, hroom, hfc, hst]

theorem run_append_grow' {ty tx e' el : TypeId} {i : TypeInfo} {zv : Value} {bs : Option Addr} {sLen sCap n : Nat} {x : Value} {olds news : List Value} (ht : P.underlying ty = some (.slice el)) (hx : P.underlying tx = some (.slice e') ∨ P.underlying tx = some .string) (hi : P.info? el = some i) (hz : i.zero = some zv) (rty : TypeId) (ats : Array TypeId) (ha : ats[0]? = some ty) (ha1 : ats[1]? = some tx)
    (hl : (Builtin.lenOf x).run P w = .ok n w) (hfo : (Builtin.firstCells i.size sLen (.slice bs sLen sCap)).run P w.drew = .ok olds.toArray w.drew) (hfc : (Builtin.firstCells i.size n x).run P w.drew = .ok news.toArray w.drew) (hg : sCap < sLen + n)
    (h63 : sLen + n ≤ 4611686018427387904) (h48 : (sLen + n) * i.bytes ≤ 140737488355328) :
    (Builtin.append_ ats rty #[.slice bs sLen sCap, x]).run P w =
      .ok (.slice (some ⟨w.heap.size, 0, none⟩) (sLen + n) (grownCap w (sLen + n) sCap el)) (w.drew.alloc (.cells (olds ++ (news ++ (List.replicate (grownCap w (sLen + n) sCap el - (sLen + n)) zv.cells.toList).flatten)).toArray el)) := by
  have hn : ¬ (sLen + n ≤ sCap) := by omega
  have h63' : ¬ (9223372036854775807 < ((sLen : Int) + (n : Int))) := by omega
  have hfit := growslice_fits hg h48
  have h48' : ¬ (281474976710656 < Builtin.nextslicecap (sLen + n) sCap * i.bytes) := by omega
  rcases hx with hx | hx <;> simp [Builtin.append_, ha, ha1, run_underlying ht, run_underlying hx, sizeOf, typeInfo, zeroValue, hi, hz, hl, hn, h63', h48', Question.forced, hfo, hfc, newRow, grownCap, run_askRoom, zeroCells_eq]
end Go.Proofs.YtpllompnfhpfmaaGreatDoor.Exe
