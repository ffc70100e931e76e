/- A part of the machine that reckons a closed run, and of the proof that what it says the given program does. No conditions. -/
import Derived.Test.YtpochibfjpanhaaGreatXy
set_option linter.unusedVariables false
set_option linter.unusedSimpArgs false
namespace Go.Proofs.YtpochibfjpanhaaGreat.Exe
open Go
variable {base w : World} {P : Program} {ρ : Rho} {S : AS} {t : T} {e : Operand → Value} {o : Oper} {c : K} {z : AV × Option AS}

/-! ### Maps -/
def KeyDesc (s : Nat) (d : TypeDesc) : Prop := (s = 1 ∧ d = .string) ∨ (s = 0 ∧ ∃ k, d = .int k)

theorem keyEq_rel {s : Nat} {d : TypeDesc} (hd : KeyDesc s d) {k k1 : AV} {u u1 : Value} {q : Bool} (hk : Den ρ k u) (hk1 : Den ρ k1 u1) (h : keyEqK s k k1 = some q) :
    Instr.sameNow d u u1 = some q ∧ (q = true → u = u1) ∧ Instr.sameBits 10000 u u = true := by
  rcases hd with ⟨rfl, rfl⟩ | ⟨rfl, kk, rfl⟩
  · obtain ⟨a, rfl, h1⟩ := onStr_some (show onStr k _ = some q from h)
    obtain ⟨b, rfl, h2⟩ := onStr_some (show onStr k1 _ = some q from h1)
    cases hk; cases hk1
    have h2 : strEq a b = q := Option.some.inj h2
    subst h2
    have hb : ∀ x y : ByteArray, (x == y) = strEq x y := fun x y => by rw [beq_toListBytes, ByteArray.toList_eq, ByteArray.toList_eq, strEq_eq]
    refine ⟨?_, fun h => by rw [(strEq_iff a b).1 h], ?_⟩
    · show some (a == b) = _
      rw [hb]
    · show (a == a) = true
      rw [hb, strEq_iff]
  · obtain ⟨j, a, rfl, h1⟩ := onInt_some (show onInt k _ = some q from h)
    obtain ⟨j', b, rfl, h2⟩ := onInt_some (show onInt k1 _ = some q from h1)
    obtain ⟨h3, h4⟩ := ifB_some (show ifB (sameKind j j') (some (eqK a b)) none = some q from h2)
    have := kindNo_inj h3
    subst this
    cases hk; cases hk1
    have h4 : eqK a b = q := Option.some.inj h4
    subst h4
    rw [eqK_eq]
    refine ⟨?_, fun h => by rw [decide_eq_true_eq] at h; rw [h], by simp [Instr.sameBits]⟩
    show (if j = j then some (a == b) else none) = _
    rw [if_pos rfl]
    congr 1

theorem findK_cons (s : Nat) (k : AV) (a : AV × AV × Nat) (es : List (AV × AV × Nat)) : findK s k (a :: es) = onSome (keyEqK s k a.1) fun b => ifB b (some (some a.2.1)) (findK s k es) := rfl
theorem updK_cons (s : Nat) (k v : AV) (a : AV × AV × Nat) (es : List (AV × AV × Nat)) : updK s k v (a :: es) = ifB (Option.rec false (fun b => b) (keyEqK s k a.1)) ((k, v, a.2.2) :: es) (a :: updK s k v es) := rfl
theorem delK_cons (s : Nat) (k : AV) (a : AV × AV × Nat) (es : List (AV × AV × Nat)) : delK s k (a :: es) = ifB (Option.rec false (fun b => b) (keyEqK s k a.1)) es (a :: delK s k es) := rfl

theorem find_rel {s : Nat} {d : TypeDesc} (hd : KeyDesc s d) {k : AV} {u : Value} (hk : Den ρ k u) : ∀ {es : List (AV × AV × Nat)} {ms : List MapEntry} {r : Option AV} (i : Nat), Ents ρ es ms → findK s k es = some r →
    (r = none ∧ Instr.findNow d u ms i = some none ∧ delK s k es = es) ∨
    (∃ v j x m, r = some v ∧ Instr.findNow d u ms i = some (some (i + j, x)) ∧ Den ρ v x ∧ ms[j]? = some m ∧ m.key = u ∧ Instr.sameBits 10000 u u = true ∧ Ents ρ (delK s k es) (ms.eraseIdx j) ∧ ∀ v' x', Den ρ v' x' → Ents ρ (updK s k v' es) (ms.modify j fun e => { e with key := u, val := x' }))
  | _, _, r, i, .nil, h => by
    cases h
    exact .inl ⟨rfl, rfl, rfl⟩
  | _, _, r, i, .cons (k := k1) (v := v1) (b := b1) (es := es) (m := m) (ms := ms) h1 h2 h3 h4, h => by
    rw [findK_cons] at h
    obtain ⟨q, hq, h⟩ := onSome_some h
    obtain ⟨e1, e2, e3⟩ := keyEq_rel hd hk h1 hq
    have hq' : keyEqK s k (k1, v1, b1).1 = some q := hq
    cases q with
    | true =>
      cases h
      have e2 := e2 rfl
      refine .inr ⟨v1, 0, m.val, m, rfl, ?_, h2, rfl, e2.symm, e3, ?_, fun v' x' hv => ?_⟩
      · show (match Instr.sameNow d u m.key with | some true => some (some (i, m.val)) | some false => Instr.findNow d u ms (i + 1) | none => none) = _
        rw [e1]; rfl
      · rw [delK_cons, hq']
        exact h4
      · rw [updK_cons, hq']
        exact .cons hk hv h3 h4
    | false =>
      rcases find_rel hd hk (i + 1) h4 h with ⟨a1, a2, a3⟩ | ⟨v, j, x, m', a1, a2, a3, a4, a5, a6, a7, a8⟩
      · refine .inl ⟨a1, ?_, ?_⟩
        · show (match Instr.sameNow d u m.key with | some true => some (some (i, m.val)) | some false => Instr.findNow d u ms (i + 1) | none => none) = _
          rw [e1]; exact a2
        · rw [delK_cons, hq', a3]; rfl
      · refine .inr ⟨v, j + 1, x, m', a1, ?_, a3, by simpa using a4, a5, a6, ?_, fun v' x' hv => ?_⟩
        · show (match Instr.sameNow d u m.key with | some true => some (some (i, m.val)) | some false => Instr.findNow d u ms (i + 1) | none => none) = _
          rw [e1]
          show Instr.findNow d u ms (i + 1) = _
          rw [a2, show i + 1 + j = i + (j + 1) by omega]
        · rw [delK_cons, hq']
          exact .cons h1 h2 h3 a7
        · rw [updK_cons, hq']
          exact .cons h1 h2 h3 (a8 v' x' hv)

theorem run_checkKey {s : Nat} {d : TypeDesc} (hd : KeyDesc s d) {kt : TypeId} (hu : P.underlying kt = some d) {k : AV} {u : Value} (hk : Den ρ k u) (hs : (∃ k1 q, keyEqK s k k1 = some q) ∨ True) (b : Bool) (n : Nat) (w : World) :
    (Instr.checkKey b (n + 1) kt u).run P w = .ok () w := by
  unfold Instr.checkKey
  rw [Sem.run_bind, run_underlying hu]
  rcases hd with ⟨rfl, rfl⟩ | ⟨rfl, kk, rfl⟩ <;> cases hk <;> rfl

theorem run_findKey {d : TypeDesc} {kt : TypeId} (hu : P.underlying kt = some d) {u : Value} {ms : List MapEntry} {r : Option (Nat × Value)} (h : Instr.findNow d u ms 0 = some r) (w : World) : (Instr.findKey kt u ms).run P w = .ok r w := by
  unfold Instr.findKey
  rw [Sem.run_bind, run_underlying hu]
  simp [h]

theorem s_lookup {ty kt el : TypeId} {x i : Operand} {x' i' : AR} {s : Nat} {ok : Bool} {d : TypeDesc} {zv : Value} {za : AV} {ti : TypeInfo} (ho : o.op = .lookup ty x i ok) (hu : P.underlying ty = some (.map kt el)) (hk : P.underlying kt = some d) (hd : KeyDesc s d)
    (hi : P.info? el = some ti) (hz : ti.zero = some zv) (hza : ofValue zv = some za) (hx : ofOperand x = some x') (hix : ofOperand i = some i') (he : EvRel ρ t e) (hw : WRel base ρ S w)
    (h : kLookup s za x' i' ok t S c = some z) : OpVal P ρ S e o w c z := by
  have hdx := he x x' hx
  have hdi := he i i' hix
  have hzd : Den ρ za zv := ofValue_some hza
  rcases ifB_or h with ⟨h0, h1⟩ | ⟨_, h1⟩
  · have hnil : ev x' t = .mnil := by
      have := beq_true h0
      generalize ev x' t = v at this
      cases v <;> first | rfl | (exact absurd (show (_ : Nat) = 3 from this) (by first | decide | (intro h; cases h)))
    rw [hnil] at hdx
    generalize hex : e x = ex at hdx
    cases hdx
    have hck := run_checkKey (P := P) hd hk hdi (.inr trivial) (#[] : Array MapEntry).isEmpty 9999 w
    have hfk := run_findKey (P := P) (d := d) (kt := kt) (u := e i) (ms := []) (r := none) hk rfl w
    have h1 : c (ifB ok (.tup [za, .bool false]) za) S = some z := h1
    cases ok with
    | true =>
      refine .pure (u := .tuple #[zv, .bool false]) h1 hw (.tup (.cons hzd (.cons (.bool _) .nil))) ?_
      simp [execOp, ho, hex, Instr.lookup, run_underlying hu]
      rw [show (#[] : Array MapEntry).isEmpty = true from rfl] at hck
      simp [hck, hfk, zeroValue, typeInfo, hi, hz]
    | false =>
      refine .pure (u := zv) h1 hw hzd ?_
      simp [execOp, ho, hex, Instr.lookup, run_underlying hu]
      rw [show (#[] : Array MapEntry).isEmpty = true from rfl] at hck
      simp [hck, hfk, zeroValue, typeInfo, hi, hz]
  · obtain ⟨b, hv, h2⟩ := onMap_some h1
    obtain ⟨es, k, hb, h3⟩ := onMapO_some h2
    obtain ⟨f, hf, h4⟩ := onSome_some h3
    rw [hv] at hdx
    generalize hex : e x = ex at hdx
    cases hdx with
    | @map _ r q hρ =>
      obtain ⟨ms, hm, hE⟩ := hw.map hb hρ
      have hck := run_checkKey (P := P) hd hk hdi (.inr trivial) ms.isEmpty 9999 w
      have hgo := run_getObj_map (P := P) hm
      rcases find_rel hd hdi 0 hE hf with ⟨rfl, a2, _⟩ | ⟨v, j, xv, m, rfl, a2, a3, _⟩
      · have hfk := run_findKey hk a2 w
        have h4 : c (ifB ok (.tup [za, .bool false]) za) S = some z := h4
        cases ok with
        | true =>
          refine .pure (u := .tuple #[zv, .bool false]) h4 hw (.tup (.cons hzd (.cons (.bool _) .nil))) ?_
          simp [execOp, ho, hex, Instr.lookup, run_underlying hu, hgo, hck, hfk, zeroValue, typeInfo, hi, hz]
        | false =>
          refine .pure (u := zv) h4 hw hzd ?_
          simp [execOp, ho, hex, Instr.lookup, run_underlying hu, hgo, hck, hfk, zeroValue, typeInfo, hi, hz]
      · have hfk := run_findKey hk a2 w
        have h4 : c (ifB ok (.tup [v, .bool true]) v) S = some z := h4
        cases ok with
        | true =>
          refine .pure (u := .tuple #[xv, .bool true]) h4 hw (.tup (.cons a3 (.cons (.bool _) .nil))) ?_
          simp [execOp, ho, hex, Instr.lookup, run_underlying hu, hgo, hck, hfk]
        | false =>
          refine .pure (u := xv) h4 hw a3 ?_
          simp [execOp, ho, hex, Instr.lookup, run_underlying hu, hgo, hck, hfk]

theorem Ents.append {ρ : Rho} : ∀ {a : List (AV × AV × Nat)} {x : List MapEntry} {b : List (AV × AV × Nat)} {y : List MapEntry}, Ents ρ a x → Ents ρ b y → Ents ρ (a ++ b) (x ++ y)
  | _, _, _, _, .nil, h => h
  | _, _, _, _, .cons a b c d, h => .cons a b c (d.append h)

/-- An object set. -/
theorem run_setObj {r : Nat} (ob : Obj) {w : World} {es : Array MapEntry} {k : Nat} (h : w.heap[r]? = some (.map es k)) : (setObj r ob).run P w = .ok () (w.putObj r ob) := by
  simp [setObj, Sem.run, h, World.putObj]

theorem s_mapUpdate {ty kt el : TypeId} {m k v : Operand} {m' k' v' : AR} {s : Nat} {d : TypeDesc} (ho : o.op = .mapUpdate ty m k v ∨ o.op = .insert ty m k v) (hu : P.underlying ty = some (.map kt el)) (hk : P.underlying kt = some d) (hd : KeyDesc s d)
    (hm : ofOperand m = some m') (hkk : ofOperand k = some k') (hv : ofOperand v = some v') (he : EvRel ρ t e) (hw : WRel base ρ S w) (h : kMapUpdate s m' k' v' t S c = some z) : OpPost base P ρ S e o w c z := by
  have hdm := he m m' hm
  have hdk := he k k' hkk
  have hdv := he v v' hv
  have hs : Nat.ble 2 s = false := by rcases hd with ⟨rfl, _⟩ | ⟨rfl, _⟩ <;> rfl
  have h : ifB (Nat.ble 2 s) _ (onMap (ev m' t) _) = some z := h
  rw [hs] at h
  obtain ⟨b, hvm, h2⟩ := onMap_some (show onMap (ev m' t) _ = some z from h)
  obtain ⟨es, cl, hb, h3⟩ := onMapO_some h2
  obtain ⟨f, hf, h4⟩ := onSome_some h3
  rw [hvm] at hdm
  generalize hex : e m = ex at hdm
  cases hdm with
  | @map _ r q hρ =>
    obtain ⟨ms, hms, hE⟩ := hw.map hb hρ
    have hck := run_checkKey (P := P) hd hk hdk (.inr trivial) false 9999 w
    have hgo := run_getObj_map (P := P) hms
    have fin : ∀ w', (Instr.mapUpdate ty (.map (some r)) (e k) (e v)).run P w = .ok () w' → (execOp e o).run P w = .ok .skip w' := fun w' hr => by
      rcases ho with ho | ho <;> simp [execOp, ho, hex, hr]
    rcases find_rel hd hdk 0 hE hf with ⟨rfl, a2, _⟩ | ⟨v1, j, xv, mm, rfl, a2, a3, a4, a5, a6, a7, a8⟩
    · have hfk := run_findKey hk a2 w
      refine ⟨_, _, ρ, _, undef, h4, ρ.le_refl, .put hρ, hw.put (u := Obj.map (ms.toArray.push ({ key := e k, val := e v, born := cl } : MapEntry)) (cl + 1)) ⟨_, hb⟩ hρ ?_, .tup .nil, .inr ⟨fin _ ?_, rfl⟩⟩
      · have : ms.toArray.push ({ key := e k, val := e v, born := cl } : MapEntry) = (ms ++ [({ key := e k, val := e v, born := cl } : MapEntry)]).toArray := by simp
        rw [this]
        exact .map (hE.append (.cons hdk hdv rfl .nil))
      · simp [Instr.mapUpdate, run_underlying hu, hgo, hck, hfk, run_setObj _ hms]
    · have hfk := run_findKey hk a2 w
      refine ⟨_, _, ρ, _, undef, h4, ρ.le_refl, .put hρ, hw.put (u := .map (ms.toArray.modify j fun en => { en with key := e k, val := e v }) cl) ⟨_, hb⟩ hρ ?_, .tup .nil, .inr ⟨fin _ ?_, rfl⟩⟩
      · have : ms.toArray.modify j (fun en => { en with key := e k, val := e v }) = (ms.modify j fun en => { en with key := e k, val := e v }).toArray := by simp
        rw [this]
        exact .map (a8 _ _ hdv)
      · have hj : ms.toArray[j]? = some mm := by simpa using a4
        simp [Instr.mapUpdate, run_underlying hu, hgo, hck, hfk, a4, a5, Instr.keyThatStays, a6, run_setObj _ hms]

/-- A struct of whole numbers may be a key. -/
theorem intFields_all : ∀ (fs : List Field) (n : Nat), intFields P fs = some n → ∀ f ∈ fs, (∃ k, P.underlying f.type = some (.int k)) ∧ f.offset < n
  | [], _, _, _, h => by cases h
  | f :: fs, n, h, g, hg => by
    cases hu : P.underlying f.type with
    | none => simp [intFields, hu] at h
    | some d =>
      cases d <;> simp only [intFields, hu] at h <;> try (cases h; done)
      rename_i k
      obtain ⟨n', hn', rfl⟩ := Option.map_eq_some_iff.1 h
      rcases List.mem_cons.1 hg with rfl | hg
      · exact ⟨⟨k, hu⟩, Nat.lt_of_lt_of_le (Nat.lt_succ_self _) (Nat.le_max_left _ _)⟩
      · obtain ⟨h1, h2⟩ := intFields_all fs n' hn' g hg
        exact ⟨h1, Nat.lt_of_lt_of_le h2 (Nat.le_max_right _ _)⟩
theorem run_forIn_quiet {A : Type} (g : A → PUnit → Sem (ForInStep PUnit)) (w : World) : ∀ l : List A, (∀ a ∈ l, (g a ⟨⟩).run P w = .ok (.yield ⟨⟩) w) → (forIn l PUnit.unit g).run P w = .ok ⟨⟩ w
  | [], _ => rfl
  | a :: l, h => by
    rw [List.forIn_cons, Sem.run_bind, h a List.mem_cons_self]
    exact run_forIn_quiet g w l fun b hb => h b (List.mem_cons_of_mem _ hb)
theorem s_mapFresh {ty kt el : TypeId} {m k v : Operand} {m' k' v' : AR} {n : Nat} {fs : Array Field} (ho : o.op = .mapUpdate ty m k v ∨ o.op = .insert ty m k v) (hu : P.underlying ty = some (.map kt el)) (hk : P.underlying kt = some (.struct fs)) (hf : intFields P fs.toList = some n)
    (hm : ofOperand m = some m') (hkk : ofOperand k = some k') (hv : ofOperand v = some v') (he : EvRel ρ t e) (hw : WRel base ρ S w) (h : kMapUpdate (2 + n) m' k' v' t S c = some z) : OpPost base P ρ S e o w c z := by
  have hdm := he m m' hm
  have hdk := he k k' hkk
  have hdv := he v v' hv
  have hs : Nat.ble 2 (2 + n) = true := Nat.ble_eq_true_of_le (by omega)
  have h : ifB (Nat.ble 2 (2 + n)) (onAgg (ev k' t) fun l => ifB (Nat.ble (Nat.sub (2 + n) 2) (widths l)) (onMap (ev m' t) fun b => onMapO S b fun es c' => onSome (findK (2 + n) (ev k' t) es) fun f => Option.rec (c (.tup []) (putK S b (.map (List.append es [(ev k' t, ev v' t, c')]) (Nat.succ c')))) (fun _ => c (.tup []) (putK S b (.map (updK (2 + n) (ev k' t) (ev v' t) es) c'))) f) none) _ = some z := h
  rw [hs] at h
  obtain ⟨l, hl, h⟩ := onAgg_some (show onAgg (ev k' t) _ = some z from h)
  obtain ⟨hwd, h⟩ := ifB_some h
  obtain ⟨b, hvm, h2⟩ := onMap_some h
  obtain ⟨es, cl, hb, h3⟩ := onMapO_some h2
  obtain ⟨f, hff, h4⟩ := onSome_some h3
  rw [hvm] at hdm
  generalize hex : e m = ex at hdm
  cases hdm with
  | @map _ r q hρ =>
    obtain ⟨ms, hms, hE⟩ := hw.map hb hρ
    cases hE with
    | cons => 
      exfalso
      have h0 : Nat.beq (2 + n) 1 = false := by rw [Bool.eq_false_iff]; intro e; have := beq_true e; omega
      have h1 : Nat.beq (2 + n) 0 = false := by rw [Bool.eq_false_iff]; intro e; have := beq_true e; omega
      rw [findK_cons] at hff
      obtain ⟨q, hq, _⟩ := onSome_some hff
      unfold keyEqK at hq
      rw [h0, h1] at hq
      cases hq
    | nil =>
      cases hff
      have hdk' := hdk
      rw [hl] at hdk'
      generalize hek : e k = ek at hdk'
      cases hdk' with
      | @agg _ us hc =>
        have hlen := widths_eq hc
        have hwd := ble_true hwd
        have hck : (Instr.checkKey false 10000 kt (.agg us.toArray)).run P w = .ok () w := by
          unfold Instr.checkKey
          rw [Sem.run_bind, run_underlying hk]
          have hns : n ≤ us.length := by
            have : Nat.sub (2 + n) 2 = n := by show 2 + n - 2 = n; omega
            rw [this, hlen] at hwd
            exact hwd
          simp only [Result.andThen_ok]
          rw [← Array.forIn_toList]
          rw [Sem.run_bind, run_forIn_quiet (P := P) _ w fs.toList ?hall]
          · rfl
          intro f hfm
          obtain ⟨⟨k', hu'⟩, ho'⟩ := intFields_all fs.toList n hf f hfm
          have hp : (part f.type us.toArray f.offset).run P w = .ok us[f.offset] w := by
            have hg : (isAgg f.type).run P w = .ok false w := run_isAgg_false hu' (by unfold aggT; rw [hu']) w
            simp [part, hg, show f.offset < us.length by omega]
          have hck : ∀ v, (Instr.checkKey false (9998 + 1) f.type v).run P w = .ok () w := fun v => by
            unfold Instr.checkKey
            rw [Sem.run_bind, run_underlying hu']
            rfl
          by_cases hname : f.name = "_"
          · simp [hname]
          · simp [hname, hp, hck]
        have hgo := run_getObj_map (P := P) hms
        have fin : ∀ w', (Instr.mapUpdate ty (.map (some r)) (e k) (e v)).run P w = .ok () w' → (execOp e o).run P w = .ok .skip w' := fun w' hr => by
          rcases ho with ho | ho <;> simp [execOp, ho, hex, hr]
        have hfk := run_findKey (P := P) (d := .struct fs) (kt := kt) (u := e k) (ms := []) (r := none) hk rfl w
        have h4 : c (.tup []) (putK S b (.map (List.append [] [(ev k' t, ev v' t, cl)]) (Nat.succ cl))) = some z := h4
        refine ⟨_, _, ρ, _, undef, h4, ρ.le_refl, .put hρ, hw.put (u := Obj.map (#[({ key := e k, val := e v, born := cl } : MapEntry)]) (cl + 1)) ⟨_, hb⟩ hρ ?_, .tup .nil, .inr ⟨fin _ ?_, rfl⟩⟩
        · exact .map (ms := [({ key := e k, val := e v, born := cl } : MapEntry)]) (.cons hdk hdv rfl .nil)
        · rw [hek] at hfk ⊢
          simp [Instr.mapUpdate, run_underlying hu, hgo, hck, hfk, run_setObj _ hms]

theorem s_delete {ty kt el : TypeId} {ats : Array TypeId} {m k : Operand} {m' k' : AR} {s : Nat} {d : TypeDesc} (ho : o.op = .call { callee := .builtin .delete, args := #[m, k], argTypes := ats }) (ha : ats[0]? = some ty) (hu : P.underlying ty = some (.map kt el)) (hk : P.underlying kt = some d) (hd : KeyDesc s d)
    (hm : ofOperand m = some m') (hkk : ofOperand k = some k') (he : EvRel ρ t e) (hw : WRel base ρ S w) (h : kDelete s m' k' t S c = some z) : OpPost base P ρ S e o w c z := by
  have hdm := he m m' hm
  have hdk := he k k' hkk
  obtain ⟨b, hvm, h2⟩ := onMap_some h
  obtain ⟨es, cl, hb, h3⟩ := onMapO_some h2
  obtain ⟨f, hf, h4⟩ := onSome_some h3
  rw [hvm] at hdm
  generalize hex : e m = ex at hdm
  cases hdm with
  | @map _ r q hρ =>
    obtain ⟨ms, hms, hE⟩ := hw.map hb hρ
    have hck := run_checkKey (P := P) hd hk hdk (.inr trivial) ms.isEmpty 9999 w
    have hgo := run_getObj_map (P := P) hms
    rcases find_rel hd hdk 0 hE hf with ⟨rfl, a2, a3⟩ | ⟨v1, j, xv, mm, rfl, a2, a3, a4, a5, a6, a7, a8⟩
    · have hfk := run_findKey hk a2 w
      refine ⟨_, _, ρ, _, _, h4, ρ.le_refl, .put hρ, hw.put (u := .map ms.toArray cl) ⟨_, hb⟩ hρ (.map (by rw [a3]; exact hE)), .tup .nil, .inl ?_⟩
      simp [execOp, ho, resolve, invoke, builtin, Builtin.delete_, ha, hex, run_underlying hu, hgo, hck, hfk, run_setObj _ hms]
    · have hfk := run_findKey hk a2 w
      refine ⟨_, _, ρ, _, _, h4, ρ.le_refl, .put hρ, hw.put (u := .map (ms.toArray.eraseIdxIfInBounds j) cl) ⟨_, hb⟩ hρ ?_, .tup .nil, .inl ?_⟩
      · have : ms.toArray.eraseIdxIfInBounds j = (ms.eraseIdx j).toArray := by
          simp
        rw [this]
        exact .map a7
      · simp [execOp, ho, resolve, invoke, builtin, Builtin.delete_, ha, hex, run_underlying hu, hgo, hck, hfk, run_setObj _ hms]
end Go.Proofs.YtpochibfjpanhaaGreat.Exe
