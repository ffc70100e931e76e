/- A part of the machine that reckons a closed run, and of the proof that what it says the given program does. No conditions. -/
import Derived.Test.YtpochibfjpanhaaGreatZa
set_option linter.unusedVariables false
set_option linter.unusedSimpArgs false
namespace Go.Proofs.YtpochibfjpanhaaGreat.Exe
open Go
variable {base w : World} {P : Program} {ρ : Rho} {S : AS} {t : T} {e : Operand → Value} {o : Oper} {c : K} {z : AV × Option AS}

theorem isCall_none {a : AO} (h : isCall a = true) : opK a t S c = none := by
  cases a <;> first | rfl | cases h

theorem isCall_class {a : AO} (h : isCall a = true) : isVal a = false ∧ isMk a = false := by
  cases a <;> first | exact ⟨rfl, rfl⟩ | cases h
theorem sound_callee {a : AO} (hc : isCall a = true) (ho : IsCallOp o) : Sound P o a :=
  .inr (.inr ⟨(isCall_class hc).1, (isCall_class hc).2, fun _ => ho, fun base ρ S e w t c z he hw h => by rw [isCall_none hc] at h; cases h⟩)

theorem aggT_of_struct {ty : TypeId} {fs : Array Field} (h : P.underlying ty = some (.struct fs)) : aggT P ty = true := by unfold aggT; rw [h]
theorem aggT_of_array {ty el : TypeId} {n : Nat} (h : P.underlying ty = some (.array n el)) : aggT P ty = true := by unfold aggT; rw [h]

theorem sound_bin {op : BinOp} {ty yt : TypeId} {x y : Operand} {x' y' : AR} {a : AO} (ho : o.op = .binOp op ty x y yt) (hx : ofOperand x = some x') (hy : ofOperand y = some y') (h : compBin P op ty x' y' = some a) : Sound P o a := by
  cases hu : P.underlying ty with
  | none => simp [compBin, hu] at h
  | some d =>
    cases d <;> simp only [compBin, hu] at h <;> try (cases h; done)
    case int k => cases h; exact .inl ⟨rfl, fun base ρ S e w t c z he hw hc => s_bin ho hx hy he hw hc⟩
    case string => cases h; exact .inl ⟨rfl, fun base ρ S e w t c z he hw hc => s_strOp ho hx hy he hw hc⟩
    case bool =>
      obtain ⟨n, hn, rfl⟩ := map_some h
      exact .inl ⟨rfl, fun base ρ S e w t c z he hw hc => s_eqBool ho hn hu hx hy he hw hc⟩
    case pointer el =>
      obtain ⟨n, hn, rfl⟩ := map_some h
      exact .inl ⟨rfl, fun base ρ S e w t c z he hw hc => s_eqNil ho hn hu (by simp [nilKind]) hx hy he hw hc⟩
    case slice el =>
      obtain ⟨n, hn, rfl⟩ := map_some h
      exact .inl ⟨rfl, fun base ρ S e w t c z he hw hc => s_eqNil ho hn hu (by simp [nilKind]) hx hy he hw hc⟩
    case map k v =>
      obtain ⟨n, hn, rfl⟩ := map_some h
      exact .inl ⟨rfl, fun base ρ S e w t c z he hw hc => s_eqNil ho hn hu (by simp [nilKind]) hx hy he hw hc⟩
    case func =>
      obtain ⟨n, hn, rfl⟩ := map_some h
      exact .inl ⟨rfl, fun base ρ S e w t c z he hw hc => s_eqNil ho hn hu (by simp [nilKind]) hx hy he hw hc⟩
    case interface =>
      obtain ⟨n, hn, rfl⟩ := map_some h
      exact .inl ⟨rfl, fun base ρ S e w t c z he hw hc => s_eqNil ho hn hu (by simp [nilKind]) hx hy he hw hc⟩
    case struct fs =>
      obtain ⟨hg, h⟩ := bif_none h
      obtain ⟨l, hl, h⟩ := bind_some h
      obtain ⟨n, hn, rfl⟩ := map_some h
      exact .inl ⟨rfl, fun base ρ S e w t c z he hw hc => s_eqPlain ho hn (aggT_of_struct hu) hg hl hx hy he hw hc⟩
    case array n el =>
      obtain ⟨hg, h⟩ := bif_none h
      obtain ⟨l, hl, h⟩ := bind_some h
      obtain ⟨n, hn, rfl⟩ := map_some h
      exact .inl ⟨rfl, fun base ρ S e w t c z he hw hc => s_eqPlain ho hn (aggT_of_array hu) hg hl hx hy he hw hc⟩

theorem sound_conv {sr ds : TypeId} {x : Operand} {x' : AR} {a : AO} (ho : o.op = .convert sr ds x) (hx : ofOperand x = some x') (h : compConv P sr ds x' = some a) : Sound P o a := by
  cases hu : P.underlying sr with
  | none => simp [compConv, hu] at h
  | some d =>
    cases hd : P.underlying ds with
    | none => cases d <;> simp [compConv, hu, hd] at h
    | some d2 =>
      cases d <;> simp only [compConv, hu, hd] at h <;> try (cases h; done)
      case int k =>
        cases d2 <;> simp only at h <;> try (cases h; done)
        case int k2 => cases h; exact .inl ⟨rfl, fun base ρ S e w t c z he hw hc => s_toInt ho hu hd hx he hw hc⟩
      case string =>
        cases d2 <;> simp only at h <;> try (cases h; done)
        case slice el =>
          cases hel : P.underlying el with
          | none => simp [hel] at h
          | some de =>
            cases de <;> simp only [hel] at h <;> try (cases h; done)
            case int k =>
              cases k <;> simp only at h <;> try (cases h; done)
              cases h
              exact .inr (.inl ⟨rfl, rfl, fun t S c z hc => s_toBytes ho hu hd hel hx hc⟩)
      case slice el0 =>
        cases d2 <;> simp only at h <;> try (cases h; done)
        case string =>
          cases hel : P.underlying el0 with
          | none => simp [hel] at h
          | some de =>
            cases de <;> simp only [hel] at h <;> try (cases h; done)
            case int k =>
              cases k <;> simp only at h <;> try (cases h; done)
              cases h
              exact .inl ⟨rfl, fun base ρ S e w t c z he hw hc => s_toStr ho hu hd hel hx he hw hc⟩
        case slice el =>
          obtain ⟨hb, h2⟩ := bif_some h
          clear h
          have := beq_true hb
          subst this
          have h := h2
          clear h2
          cases hel : P.underlying el with
          | none => simp [hel] at h
          | some de =>
            cases de <;> simp only [hel] at h <;> try (cases h; done)
            case int k =>
              cases k <;> simp only at h <;> try (cases h; done)
              cases h
              exact .inr (.inr ⟨rfl, rfl, (by intro h; cases h), fun base ρ S e w t c z he hw hc => s_mark ho hd hel hx he hw hc⟩)

theorem sound_index {ty : TypeId} {x i : Operand} {x' i' : AR} {a : AO} (ho : o.op = .index ty x i) (hx : ofOperand x = some x') (hi : ofOperand i = some i')
    (h : (match P.underlying ty with
      | some (.array n e) => bif known P e then some (AO.ixArray n (sizeT P e) (aggT P e) x' i') else none
      | some .string => some (.ixString x' i')
      | _ => none) = some a) : Sound P o a := by
  cases hu : P.underlying ty with
  | none => simp [hu] at h
  | some d =>
    cases d <;> simp only [hu] at h <;> try (cases h; done)
    case array n el =>
      obtain ⟨hk, h⟩ := bif_some h
      cases h
      obtain ⟨d, hd, hn⟩ := known_some hk
      exact .inl ⟨rfl, fun base ρ S e w t c z he hw hc => s_ixArray ho hu hd hn hx hi he hw hc⟩
    case string => cases h; exact .inl ⟨rfl, fun base ρ S e w t c z he hw hc => s_ixString ho hu hx hi he hw hc⟩

theorem sound_indexAddr {ty : TypeId} {x i : Operand} {x' i' : AR} {a : AO} (ho : o.op = .indexAddr ty x i) (hx : ofOperand x = some x') (hi : ofOperand i = some i')
    (h : (match P.underlying ty with
      | some (.array n e) => bif known P e then some (AO.atArray n (sizeT P e) x' i') else none
      | some (.slice e) => bif known P e then some (.atSlice (sizeT P e) x' i') else none
      | _ => none) = some a) : Sound P o a := by
  cases hu : P.underlying ty with
  | none => simp [hu] at h
  | some d =>
    cases d <;> simp only [hu] at h <;> try (cases h; done)
    case array n el =>
      obtain ⟨hk, h⟩ := bif_some h
      cases h
      obtain ⟨d, hd, hn⟩ := known_some hk
      exact .inl ⟨rfl, fun base ρ S e w t c z he hw hc => s_atArray ho hu hn hx hi he hw hc⟩
    case slice el =>
      obtain ⟨hk, h⟩ := bif_some h
      cases h
      obtain ⟨d, hd, hn⟩ := known_some hk
      exact .inl ⟨rfl, fun base ρ S e w t c z he hw hc => s_atSlice ho hu hn hx hi he hw hc⟩

theorem sound_slice {ty : TypeId} {x : Operand} {lo hi mx : Option Operand} {x' : AR} {lo' hi' mx' : Option AR} {a : AO} (ho : o.op = .slice ty x lo hi mx) (hx : ofOperand x = some x') (hlo : ofOpt lo = some lo') (hhi : ofOpt hi = some hi') (hmx : ofOpt mx = some mx')
    (h : (match P.underlying ty with
      | some (.array n e) => bif known P e then some (AO.sliceArray n (sizeT P e) x' lo' hi' mx') else none
      | some (.slice e) => bif known P e then some (.sliceSlice (sizeT P e) x' lo' hi' mx') else none
      | some .string => strSlice x' lo' hi' mx'
      | _ => none) = some a) : Sound P o a := by
  cases hu : P.underlying ty with
  | none => simp [hu] at h
  | some d =>
    cases d <;> simp only [hu] at h <;> try (cases h; done)
    case array n el =>
      obtain ⟨hk, h⟩ := bif_some h
      cases h
      obtain ⟨d, hd, hn⟩ := known_some hk
      exact .inl ⟨rfl, fun base ρ S e w t c z he hw hc => s_sliceArray ho hu hn hx hlo hhi hmx he hw hc⟩
    case slice el =>
      obtain ⟨hk, h⟩ := bif_some h
      cases h
      obtain ⟨d, hd, hn⟩ := known_some hk
      exact .inl ⟨rfl, fun base ρ S e w t c z he hw hc => s_sliceSlice ho hu hn hx hlo hhi hmx he hw hc⟩
    case string =>
      cases mx' with
      | some _ => cases h
      | none =>
        cases h
        have hmx0 : mx = none := by
          cases mx with
          | none => rfl
          | some m => obtain ⟨_, _, h⟩ := map_some (show (ofOperand m).map some = some none from hmx); cases h
        subst hmx0
        exact .inl ⟨rfl, fun base ρ S e w t c z he hw hc => s_sliceString ho hu hx hlo hhi he hw hc⟩

theorem sound_field {ty : TypeId} {x : Operand} {i : Nat} {a : AO} (ho : o.op = .field ty x i)
    (h : (match P.underlying ty with
      | some (.struct fs) => (fs[i]?).bind fun f => bif known P f.type then (ofOperand x).map fun x => AO.field (aggT P f.type) f.offset (sizeT P f.type) x else none
      | _ => none) = some a) : Sound P o a := by
  cases hu : P.underlying ty with
  | none => simp [hu] at h
  | some d =>
    cases d <;> simp only [hu] at h <;> try (cases h; done)
    case struct fs =>
      obtain ⟨f, hf, h⟩ := bind_some h
      obtain ⟨hk, h⟩ := bif_some h
      obtain ⟨x', hx, rfl⟩ := map_some h
      obtain ⟨d, hd, hn⟩ := known_some hk
      exact .inl ⟨rfl, fun base ρ S e w t c z he hw hc => s_field ho hu hf hd hn hx he hw hc⟩

theorem sound_fieldAddr {ty : TypeId} {x : Operand} {i : Nat} {a : AO} (ho : o.op = .fieldAddr ty x i)
    (h : (match P.underlying ty with
      | some (.struct fs) => (fs[i]?).bind fun f => (bif Nat.beq (sizeT P f.type) 0 then none else (ofOperand x).map fun x => AO.fieldAddr f.offset x)
      | _ => none) = some a) : Sound P o a := by
  cases hu : P.underlying ty with
  | none => simp [hu] at h
  | some d =>
    cases d <;> simp only [hu] at h <;> try (cases h; done)
    case struct fs =>
      obtain ⟨f, hf, h⟩ := bind_some h
      obtain ⟨hk, h⟩ := bif_none h
      obtain ⟨x', hx, rfl⟩ := map_some h
      have hk := beq_false hk
      have hs : ∃ n, (P.info? f.type).map (·.size) = some n ∧ n ≠ 0 := by
        unfold sizeT at hk
        cases hi : P.info? f.type with
        | none => rw [hi] at hk; exact absurd rfl hk
        | some ti => rw [hi] at hk; exact ⟨ti.size, rfl, hk⟩
      exact .inl ⟨rfl, fun base ρ S e w t c z he hw hc => s_fieldAddr ho hu hf hs hx he hw hc⟩

theorem sound_build {ty : TypeId} {ps : Array (Nat × Operand)} {a : AO} (ho : o.op = .build ty ps)
    (h : ((zeroOf P ty).bind fun z => (match P.underlying ty with
      | some (.struct fs) => (placesOf P fs.toList).bind fun l => partsOf (fun i => l[i]?) ps.toList
      | some (.array _ e) => (P.info? e).bind fun ie => partsOf (fun i => some (i * ie.size, ie.size)) ps.toList
      | _ => none).map fun l => AO.build z l) = some a) : Sound P o a := by
  obtain ⟨zs, hz, h⟩ := bind_some h
  obtain ⟨l, hl, rfl⟩ := map_some h
  cases hu : P.underlying ty with
  | none => simp [hu] at hl
  | some d =>
    cases d <;> simp only [hu] at hl <;> try (cases hl; done)
    case struct fs =>
      obtain ⟨pl, hpl, hl⟩ := bind_some hl
      exact .inl ⟨rfl, fun base ρ S e w t c z he hw hc => s_build ho hz (fun parts zv i hi hzv => built_struct hu hpl parts zv i hi hzv) hl he hw hc⟩
    case array n el =>
      obtain ⟨ie, hie, hl⟩ := bind_some hl
      exact .inl ⟨rfl, fun base ρ S e w t c z he hw hc => s_build ho hz (fun parts zv i hi hzv => built_array hu hie parts zv i hi hzv) hl he hw hc⟩

theorem sound_buildSlice {ty : TypeId} {len : Nat} {ps : Array (Nat × Operand)} {a : AO} (ho : o.op = .buildSlice ty len ps)
    (h : (match P.underlying ty with
      | some (.slice e) => bif Nat.ble (len * sizeT P e) 16777216 && Nat.blt 0 (len * sizeT P e) && fullZero P e then (zeroOf P e).bind fun z => (partsOf (fun i => some (i * sizeT P e, sizeT P e)) ps.toList).map fun l => AO.buildSlice e (sizeT P e) len z l else none
      | _ => none) = some a) : Sound P o a := by
  cases hu : P.underlying ty with
  | none => simp [hu] at h
  | some d =>
    cases d <;> simp only [hu] at h <;> try (cases h; done)
    case slice el =>
      obtain ⟨hb, h⟩ := bif_some h
      obtain ⟨zs, hz, h⟩ := bind_some h
      obtain ⟨l, hl, rfl⟩ := map_some h
      rw [Bool.and_eq_true, Bool.and_eq_true] at hb
      exact .inr (.inl ⟨rfl, rfl, fun t S c z hc => s_buildSlice ho hu hb.2 hz (ble_true hb.1.1) (ble_true hb.1.2) hl hc⟩)

theorem sound_makeSlice {ty : TypeId} {l k : Operand} {a : AO} (ho : o.op = .makeSlice ty l k)
    (h : (match P.underlying ty with
      | some (.slice e) => bif fullZero P e then (zeroOf P e).bind fun z => (ofOperand l).bind fun l => (ofOperand k).map fun c => AO.makeSlice e (sizeT P e) ((P.info? e).map (·.bytes) |>.getD 0) z l c else none
      | _ => none) = some a) : Sound P o a := by
  cases hu : P.underlying ty with
  | none => simp [hu] at h
  | some d =>
    cases d <;> simp only [hu] at h <;> try (cases h; done)
    case slice el =>
      obtain ⟨hb, h⟩ := bif_some h
      obtain ⟨zs, hz, h⟩ := bind_some h
      obtain ⟨l', hl, h⟩ := bind_some h
      obtain ⟨k', hk, rfl⟩ := map_some h
      obtain ⟨i, zv, hi, _⟩ := zeroOf_some (ρ := fun _ => none) hz
      refine .inr (.inl ⟨rfl, rfl, fun t S c z hc => s_makeSlice ho hu hb hz ?_ hl hk hc⟩)
      rw [hi]
      rfl

theorem sound_lookup {ty : TypeId} {x i : Operand} {ok : Bool} {a : AO} (ho : o.op = .lookup ty x i ok)
    (h : (match P.underlying ty with
      | some (.map kt e) => (strKey P kt).bind fun s => ((P.info? e).bind (·.zero)).bind fun z => (ofValue z).bind fun z => (ofOperand x).bind fun x => (ofOperand i).map fun i => AO.lookup s z x i ok
      | _ => none) = some a) : Sound P o a := by
  cases hu : P.underlying ty with
  | none => simp [hu] at h
  | some d =>
    cases d <;> simp only [hu] at h <;> try (cases h; done)
    case map kt el =>
      obtain ⟨s, hs, h⟩ := bind_some h
      obtain ⟨zv, hz, h⟩ := bind_some h
      obtain ⟨za, hza, h⟩ := bind_some h
      obtain ⟨x', hx, h⟩ := bind_some h
      obtain ⟨i', hix, rfl⟩ := map_some h
      obtain ⟨ti, hi, hz⟩ := bind_some hz
      obtain ⟨d, h1, h2⟩ := strKey_some hs
      exact .inl ⟨rfl, fun base ρ S e w t c z he hw hc => s_lookup ho hu h1 h2 hi hz hza hx hix he hw hc⟩

theorem sound_of {a : AO} (h : compOp? P o = some a) : Sound P o a := by
  obtain ⟨dst, op, type, pos, after, guard⟩ := o
  cases op with
  | move x =>
    obtain ⟨y, hy, rfl⟩ := map_some (show (ofOperand x).map AO.mv = some a from h)
    exact .inl ⟨rfl, fun base ρ S e w t c z he hw hc => s_move (.inl rfl) hy he hw hc⟩
  | assign x =>
    obtain ⟨y, hy, rfl⟩ := map_some (show (ofOperand x).map AO.mv = some a from h)
    exact .inl ⟨rfl, fun base ρ S e w t c z he hw hc => s_move (.inr rfl) hy he hw hc⟩
  | pick x y1 y2 =>
    obtain ⟨x', hx, h⟩ := bind_some (show (ofOperand x).bind (fun c => (ofOperand y1).bind fun a => (ofOperand y2).map fun b => AO.pick c a b) = some a from h)
    obtain ⟨a', ha, h⟩ := bind_some h
    obtain ⟨b', hb, rfl⟩ := map_some h
    exact .inl ⟨rfl, fun base ρ S e w t c z he hw hc => s_pick rfl hx ha hb he hw hc⟩
  | alloc el =>
    obtain ⟨zs, hz, rfl⟩ := map_some (show (zeroOf P el).map (fun z => AO.alloc el (sizeT P el) z) = some a from h)
    exact .inr (.inl ⟨rfl, rfl, fun t S c z _ => ⟨.cells el (sizeT P el) zs, fun b => .ptr b 0, fun _ _ => rfl, fun ρ e w _ => s_alloc rfl hz⟩⟩)
  | box el x =>
    obtain ⟨y, hy, rfl⟩ := map_some (show (ofOperand x).map (fun x => AO.box el (sizeT P el) x) = some a from h)
    refine .inr (.inl ⟨rfl, rfl, fun t S c z hc => ?_⟩)
    obtain ⟨ob, h1, h2⟩ := s_box (o := { dst, op := .box el x, type, pos, after, guard }) (P := P) rfl hy hc
    exact ⟨ob, _, h1, h2⟩
  | build ty ps => exact sound_build rfl h
  | buildSlice ty len ps => exact sound_buildSlice rfl h
  | load ty x =>
    obtain ⟨hk, h⟩ := bif_some (show (bif known P ty then (ofOperand x).map fun x => AO.load (aggT P ty) (sizeT P ty) x else none) = some a from h)
    obtain ⟨y, hy, rfl⟩ := map_some h
    obtain ⟨d, hd, hn⟩ := known_some hk
    exact .inl ⟨rfl, fun base ρ S e w t c z he hw hc => s_load rfl hd hn hy he hw hc⟩
  | store ty x y =>
    obtain ⟨hk, h⟩ := bif_some (show (bif known P ty then (ofOperand x).bind fun a => (ofOperand y).map fun x => AO.store (sizeT P ty) a x else none) = some a from h)
    obtain ⟨x', hx, h⟩ := bind_some h
    obtain ⟨y', hy, rfl⟩ := map_some h
    obtain ⟨d, hd, hn⟩ := known_some hk
    exact .inr (.inr ⟨rfl, rfl, (by intro h; cases h), fun base ρ S e w t c z he hw hc => s_store rfl hn hx hy he hw hc⟩)
  | nilCheck x =>
    obtain ⟨y, hy, rfl⟩ := map_some (show (ofOperand x).map AO.nilCheck = some a from h)
    exact .inl ⟨rfl, fun base ρ S e w t c z he hw hc => s_nilCheck rfl hy he hw hc⟩
  | binOp op ty x y yt =>
    obtain ⟨x', hx, h⟩ := bind_some (show (ofOperand x).bind (fun x => (ofOperand y).bind fun y => compBin P op ty x y) = some a from h)
    obtain ⟨y', hy, h⟩ := bind_some h
    exact sound_bin rfl hx hy h
  | unOp op ty x =>
    obtain ⟨y, hy, rfl⟩ := map_some (show (ofOperand x).map (fun x => AO.un op x) = some a from h)
    exact .inl ⟨rfl, fun base ρ S e w t c z he hw hc => s_un rfl hy he hw hc⟩
  | convert sr ds x =>
    obtain ⟨y, hy, h⟩ := bind_some (show (ofOperand x).bind (compConv P sr ds) = some a from h)
    exact sound_conv rfl hy h
  | sliceToArrayPointer ty x =>
    cases hu : P.underlying ty with
    | none => simp [compOp?, hu] at h
    | some d =>
      cases d <;> simp only [compOp?, hu] at h <;> try (cases h; done)
      obtain ⟨y, hy, rfl⟩ := map_some h
      exact .inl ⟨rfl, fun base ρ S e w t c z he hw hc => s_s2ap rfl hu hy he hw hc⟩
  | makeInterface ty x =>
    cases hu : P.underlying ty with
    | none => simp [compOp?, hu] at h
    | some d =>
      have hd : ∀ ms, d ≠ .interface ms := fun ms e => by subst e; simp [compOp?, hu] at h
      have h : (ofOperand x).map (fun x => AO.makeIface ty x) = some a := by
        cases d <;> simp only [compOp?, hu] at h <;> first | exact h | (cases h; done)
      obtain ⟨y, hy, rfl⟩ := map_some h
      exact .inl ⟨rfl, fun base ρ S e w t c z he hw hc => s_makeIface rfl hu hd hy he hw hc⟩
  | makeFunc fn x y =>
    cases fn with
    | func f =>
      obtain ⟨x', hx, h⟩ := bind_some (show (ofOperands x.toList).bind (fun a => (ofOperands y.toList).map fun b => AO.makeFunc f a b) = some a from h)
      obtain ⟨y', hy, rfl⟩ := map_some h
      exact .inl ⟨rfl, fun base ρ S e w t c z he hw hc => s_makeFunc rfl hx hy he hw hc⟩
    | _ => cases h
  | makeMap ty r =>
    cases r with
    | none =>
      cases h
      exact .inr (.inl ⟨rfl, rfl, fun t S c z _ => ⟨.map [] 0, fun b => .map b, fun _ _ => rfl, fun ρ e w _ => s_makeMap rfl⟩⟩)
    | some x =>
      cases x with
      | const v =>
        cases v with
        | int k n =>
          cases hu : P.underlying ty with
          | none => simp [compOp?, hu] at h
          | some d =>
            cases d <;> simp only [compOp?, hu] at h <;> try (cases h; done)
            cases h
            exact .inr (.inl ⟨rfl, rfl, fun t S c z _ => ⟨.map [] 0, fun b => .map b, fun _ _ => rfl, fun ρ e w he => s_makeMap' rfl hu he⟩⟩)
        | _ => cases h
      | _ => cases h
  | makeSlice ty l k => exact sound_makeSlice rfl h
  | slice ty x lo hi mx =>
    obtain ⟨x', hx, h⟩ := bind_some (show (ofOperand x).bind (fun x => (ofOpt lo).bind fun lo => (ofOpt hi).bind fun hi => (ofOpt mx).bind fun mx => (match P.underlying ty with
      | some (.array n e) => bif known P e then some (.sliceArray n (sizeT P e) x lo hi mx) else none
      | some (.slice e) => bif known P e then some (.sliceSlice (sizeT P e) x lo hi mx) else none
      | some .string => strSlice x lo hi mx
      | _ => none)) = some a from h)
    obtain ⟨lo', hlo, h⟩ := bind_some h
    obtain ⟨hi', hhi, h⟩ := bind_some h
    obtain ⟨mx', hmx, h⟩ := bind_some h
    exact sound_slice rfl hx hlo hhi hmx h
  | fieldAddr ty x i => exact sound_fieldAddr rfl h
  | field ty x i => exact sound_field rfl h
  | indexAddr ty x i =>
    obtain ⟨x', hx, h⟩ := bind_some (show (ofOperand x).bind (fun x => (ofOperand i).bind fun i => (match P.underlying ty with
      | some (.array n e) => bif known P e then some (.atArray n (sizeT P e) x i) else none
      | some (.slice e) => bif known P e then some (.atSlice (sizeT P e) x i) else none
      | _ => none)) = some a from h)
    obtain ⟨i', hi, h⟩ := bind_some h
    exact sound_indexAddr rfl hx hi h
  | index ty x i =>
    obtain ⟨x', hx, h⟩ := bind_some (show (ofOperand x).bind (fun x => (ofOperand i).bind fun i => (match P.underlying ty with
      | some (.array n e) => bif known P e then some (.ixArray n (sizeT P e) (aggT P e) x i) else none
      | some .string => some (.ixString x i)
      | _ => none)) = some a from h)
    obtain ⟨i', hi, h⟩ := bind_some h
    exact sound_index rfl hx hi h
  | lookup ty x i ok => exact sound_lookup rfl h
  | mapUpdate ty m k v =>
    obtain ⟨s, hs, h⟩ := bind_some (show (keyUp P ty).bind (fun s => (ofOperand m).bind fun m => (ofOperand k).bind fun k => (ofOperand v).map fun v => AO.mapUpdate s m k v) = some a from h)
    obtain ⟨m', hm, h⟩ := bind_some h
    obtain ⟨k', hk, h⟩ := bind_some h
    obtain ⟨v', hv, rfl⟩ := map_some h
    rcases keyUp_some hs with ⟨kt, el, d, h1, h2, h3⟩ | ⟨kt, el, fs, n, h1, h2, h3, rfl⟩
    · exact .inr (.inr ⟨rfl, rfl, (by intro h; cases h), fun base ρ S e w t c z he hw hc => s_mapUpdate (.inl rfl) h1 h2 h3 hm hk hv he hw hc⟩)
    · exact .inr (.inr ⟨rfl, rfl, (by intro h; cases h), fun base ρ S e w t c z he hw hc => s_mapFresh (.inl rfl) h1 h2 h3 hm hk hv he hw hc⟩)
  | insert ty m k v =>
    obtain ⟨s, hs, h⟩ := bind_some (show (keyUp P ty).bind (fun s => (ofOperand m).bind fun m => (ofOperand k).bind fun k => (ofOperand v).map fun v => AO.mapUpdate s m k v) = some a from h)
    obtain ⟨m', hm, h⟩ := bind_some h
    obtain ⟨k', hk, h⟩ := bind_some h
    obtain ⟨v', hv, rfl⟩ := map_some h
    rcases keyUp_some hs with ⟨kt, el, d, h1, h2, h3⟩ | ⟨kt, el, fs, n, h1, h2, h3, rfl⟩
    · exact .inr (.inr ⟨rfl, rfl, (by intro h; cases h), fun base ρ S e w t c z he hw hc => s_mapUpdate (.inr rfl) h1 h2 h3 hm hk hv he hw hc⟩)
    · exact .inr (.inr ⟨rfl, rfl, (by intro h; cases h), fun base ρ S e w t c z he hw hc => s_mapFresh (.inr rfl) h1 h2 h3 hm hk hv he hw hc⟩)
  | extract x i =>
    obtain ⟨y, hy, rfl⟩ := map_some (show (ofOperand x).map (fun x => AO.extract x i) = some a from h)
    exact .inl ⟨rfl, fun base ρ S e w t c z he hw hc => s_extract rfl hy he hw hc⟩
  | call cl =>
    obtain ⟨callee, args, ats⟩ := cl
    cases callee with
    | builtin b => exact sound_call h
    | value f =>
      have hc : isCall a = true := by
        cases f with
        | func f => obtain ⟨_, _, rfl⟩ := map_some (show (ofOperands args.toList).map (fun a => AO.call f a) = some a from h); rfl
        | tmp q =>
          obtain ⟨_, _, h⟩ := bind_some (show (ofOperand (.tmp q)).bind (fun f => (ofOperands args.toList).map fun a => AO.dyn f a) = some a from h)
          obtain ⟨_, _, rfl⟩ := map_some h
          rfl
        | const q =>
          obtain ⟨_, _, h⟩ := bind_some (show (ofOperand (.const q)).bind (fun f => (ofOperands args.toList).map fun a => AO.dyn f a) = some a from h)
          obtain ⟨_, _, rfl⟩ := map_some h
          rfl
        | global q =>
          obtain ⟨_, _, h⟩ := bind_some (show (ofOperand (.global q)).bind (fun f => (ofOperands args.toList).map fun a => AO.dyn f a) = some a from h)
          obtain ⟨_, _, rfl⟩ := map_some h
          rfl
      exact sound_callee hc trivial
    | invoke x name =>
      have hc : isCall a = true := by
        obtain ⟨_, _, h⟩ := bind_some (show (ofOperand x).bind (fun x => (ofOperands args.toList).map fun a => .invoke x (methFn P name) a) = some a from h)
        obtain ⟨_, _, rfl⟩ := map_some h
        rfl
      exact sound_callee hc trivial
  | defer cl =>
    obtain ⟨callee, args, ats⟩ := cl
    cases callee with
    | value f =>
      have hc : isCall a = true := by
        obtain ⟨_, _, h⟩ := bind_some (show (ofOperand f).bind (fun f => (ofOperands args.toList).map fun a => .defer f a) = some a from h)
        obtain ⟨_, _, rfl⟩ := map_some h
        rfl
      exact sound_callee hc trivial
    | _ => cases h
  | range ty x =>
    cases hu : P.underlying ty with
    | none => simp [compOp?, hu] at h
    | some d =>
      cases d <;> simp only [compOp?, hu] at h <;> try (cases h; done)
      obtain ⟨y, hy, rfl⟩ := map_some h
      exact .inr (.inr ⟨rfl, rfl, (by intro h; cases h), fun base ρ S e w t c z he hw hc => s_mrange rfl hu hy he hw hc⟩)
  | entry x =>
    obtain ⟨y, hy, rfl⟩ := map_some (show (ofOperand x).map AO.mentry = some a from h)
    exact .inl ⟨rfl, fun base ρ S e w t c z he hw hc => s_mentry rfl hy he hw hc⟩
  | next x s =>
    cases s with
    | true => cases h
    | false =>
      obtain ⟨y, hy, rfl⟩ := map_some (show (ofOperand x).map AO.mnext = some a from h)
      exact sound_callee rfl trivial
  | _ => cases h
end Go.Proofs.YtpochibfjpanhaaGreat.Exe
