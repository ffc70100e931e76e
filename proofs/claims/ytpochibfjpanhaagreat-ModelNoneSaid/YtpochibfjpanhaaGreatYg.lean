/- A part of the machine that reckons a closed run, and of the proof that what it says the given program does. No conditions. -/
import Derived.Test.YtpochibfjpanhaaGreatYf
set_option linter.unusedVariables false
set_option linter.unusedSimpArgs false
namespace Go.Proofs.YtpochibfjpanhaaGreat.Exe
open Go
variable {base w : World} {P : Program} {ρ : Rho} {S : AS} {t : T} {e : Operand → Value} {o : Oper} {c : K} {z : AV × Option AS}

/-- A call of a function that is told by its number, by a value, by an interface's method; or one put off. -/
def IsCallOp (o : Oper) : Prop := match o.op with
  | .call { callee := .builtin _, .. } => False
  | .call _ | .defer _ | .next _ false => True
  | _ => False
/-- An operation of ours does what the program's does. -/
def Sound (P : Program) (o : Oper) (a : AO) : Prop :=
  (isVal a = true ∧ ∀ (base : World) (ρ : Rho) (S : AS) (e : Operand → Value) (w : World) (t : T) (c : K) (z : AV × Option AS), EvRel ρ t e → WRel base ρ S w → opK a t S c = some z → OpVal P ρ S e o w c z) ∨
  (isVal a = false ∧ isMk a = true ∧ ∀ (t : T) (S : AS) (c : K) (z : AV × Option AS), opK a t S c = some z → ∃ ob vf, (∀ S c, opK a t S c = newK S ob fun b S => c (vf b) S) ∧ ∀ ρ e w, EvRel ρ t e → OpMk P ρ e o w ob vf) ∨
  (isVal a = false ∧ isMk a = false ∧ (isCall a = true → IsCallOp o) ∧ ∀ (base : World) (ρ : Rho) (S : AS) (e : Operand → Value) (w : World) (t : T) (c : K) (z : AV × Option AS), EvRel ρ t e → WRel base ρ S w → opK a t S c = some z → OpPost base P ρ S e o w c z)

theorem Sound.post {a : AO} (h : Sound P o a) (he : EvRel ρ t e) (hw : WRel base ρ S w) (hc : opK a t S c = some z) : OpPost base P ρ S e o w c z := by
  rcases h with ⟨_, h⟩ | ⟨_, _, h⟩ | ⟨_, _, _, h⟩
  · exact (h base ρ S e w t c z he hw hc).post hw
  · obtain ⟨ob, vf, h1, h2⟩ := h t S c z hc
    exact (h2 ρ e w he).post hw (by rw [← h1]; exact hc)
  · exact h base ρ S e w t c z he hw hc

theorem known_some {ty : TypeId} (h : known P ty = true) : ∃ d, P.underlying ty = some d ∧ (P.info? ty).map (·.size) = some (sizeT P ty) := by
  unfold known at h
  cases hu : P.underlying ty with
  | none => rw [hu] at h; cases h
  | some d =>
    obtain ⟨i, hi⟩ := info_under hu
    exact ⟨d, rfl, by unfold sizeT; rw [hi]; rfl⟩
theorem bif_some {A : Type} {b : Bool} {x : Option A} {r : A} (h : (bif b then x else none) = some r) : b = true ∧ x = some r := by
  cases b with
  | true => exact ⟨rfl, h⟩
  | false => cases h
theorem bif_none {A : Type} {b : Bool} {x : Option A} {r : A} (h : (bif b then none else x) = some r) : b = false ∧ x = some r := by
  cases b with
  | true => cases h
  | false => exact ⟨rfl, h⟩
theorem bind_some {A B : Type} {x : Option A} {f : A → Option B} {r : B} (h : x.bind f = some r) : ∃ a, x = some a ∧ f a = some r := Option.bind_eq_some_iff.1 h
theorem map_some {A B : Type} {x : Option A} {f : A → B} {r : B} (h : x.map f = some r) : ∃ a, x = some a ∧ f a = r := Option.map_eq_some_iff.1 h

theorem strKey_some {kt : TypeId} {s : Nat} (h : strKey P kt = some s) : ∃ d, P.underlying kt = some d ∧ KeyDesc s d := by
  unfold strKey at h
  split at h
  · rename_i hu; cases h; exact ⟨_, hu, .inl ⟨rfl, rfl⟩⟩
  · rename_i k hu; cases h; exact ⟨_, hu, .inr ⟨rfl, _, rfl⟩⟩
  · cases h
theorem keyOf_some {ty : TypeId} {s : Nat} (h : keyOf P ty = some s) : ∃ kt el d, P.underlying ty = some (.map kt el) ∧ P.underlying kt = some d ∧ KeyDesc s d := by
  unfold keyOf at h
  split at h
  · rename_i kt el hu
    obtain ⟨d, h1, h2⟩ := strKey_some h
    exact ⟨kt, el, d, hu, h1, h2⟩
  · cases h
theorem keyUp_some {ty : TypeId} {s : Nat} (h : keyUp P ty = some s) : (∃ kt el d, P.underlying ty = some (.map kt el) ∧ P.underlying kt = some d ∧ KeyDesc s d) ∨ ∃ kt el fs n, P.underlying ty = some (.map kt el) ∧ P.underlying kt = some (.struct fs) ∧ intFields P fs.toList = some n ∧ s = 2 + n := by
  unfold keyUp at h
  split at h
  · rename_i kt el hu
    split at h
    · rename_i fs hk
      obtain ⟨n, hn, rfl⟩ := map_some h
      exact .inr ⟨kt, el, fs, n, hu, hk, hn, rfl⟩
    · obtain ⟨d, h1, h2⟩ := strKey_some h
      exact .inl ⟨kt, el, d, hu, h1, h2⟩
  · cases h
theorem ofOperands_one {args : Array Operand} {x : AR} (h : ofOperands args.toList = some [x]) : ∃ y, args = #[y] ∧ ofOperand y = some x := by
  obtain ⟨l⟩ := args
  cases l with
  | nil => cases h
  | cons y r =>
    obtain ⟨a, ha, h⟩ := bind_some (show (ofOperand y).bind _ = _ from h)
    obtain ⟨as, has, h⟩ := map_some h
    cases h
    cases r with
    | nil => exact ⟨y, rfl, ha⟩
    | cons q r' =>
      obtain ⟨a', _, h⟩ := bind_some (show (ofOperand q).bind _ = _ from has)
      obtain ⟨_, _, h⟩ := map_some h
      cases h
theorem ofOperands_two {args : Array Operand} {x x2 : AR} (h : ofOperands args.toList = some [x, x2]) : ∃ y y2, args = #[y, y2] ∧ ofOperand y = some x ∧ ofOperand y2 = some x2 := by
  obtain ⟨l⟩ := args
  cases l with
  | nil => cases h
  | cons y r =>
    obtain ⟨a, ha, h⟩ := bind_some (show (ofOperand y).bind _ = _ from h)
    obtain ⟨as, has, h⟩ := map_some h
    cases h
    obtain ⟨y2, e2, h2⟩ := ofOperands_one (args := ⟨r⟩) has
    cases e2
    exact ⟨y, y2, rfl, ha, h2⟩

theorem s_makeMap' {ty k v : TypeId} {kd : IntKind} {n : Int} (ho : o.op = .makeMap ty (some (.const (.int kd n)))) (hu : P.underlying ty = some (.map k v)) (he : EvRel ρ t e) : OpMk P ρ e o w (.map [] 0) (fun b => .map b) := by
  have hd := he (.const (.int kd n)) (.const (.int kd n)) rfl
  generalize hex : e (.const (.int kd n)) = vx at hd
  have hd : Den ρ (.int kd n) vx := hd
  cases hd
  refine ⟨0, .map #[] 0, .map (some w.heap.size), w, .inl rfl, fun ρ' _ => .map .nil, fun ρ' b hρ => .map hρ, ?_⟩
  simp [execOp, ho, Instr.makeMap, newObj, hex, run_underlying hu, asInt, asIntOf]
  rfl

theorem sound_len {args : Array Operand} {ats : Array TypeId} {ty : TypeId} {dst : Option Tmp} {pos : String} {after : Array Edge} {guard : Option (Nat × Bool)} {a : AO} {l : List AR} (hl : ofOperands args.toList = some l)
    (h : compB P ats .len l = some a) : Sound P { dst, op := .call { callee := .builtin .len, args, argTypes := ats }, type := ty, pos, after, guard } a := by
  cases l with
  | nil => cases h
  | cons x r =>
  cases r with
  | cons _ _ => cases h
  | nil =>
  obtain ⟨y, rfl, hy⟩ := ofOperands_one hl
  cases ha : ats[0]? with
  | none => simp [compB, ha] at h
  | some t0 =>
  cases hu : P.underlying t0 with
  | none => simp [compB, ha, hu] at h
  | some d =>
  cases d <;> simp only [compB, ha, hu, Option.bind_some] at h <;> try (cases h; done)
  case array n el => cases h; exact .inl ⟨rfl, fun base ρ S e w t c z he hw hc => s_lenConst_array (t := t) rfl ha hu hw hc⟩
  case pointer el =>
    cases hu2 : P.underlying el with
    | none => rw [hu2] at h; cases h
    | some d2 =>
      rw [hu2] at h
      cases d2 <;> try (cases h; done)
      cases h
      exact .inl ⟨rfl, fun base ρ S e w t c z he hw hc => s_lenConst_ptr (t := t) rfl ha hu hu2 hw hc⟩
  case string => cases h; exact .inl ⟨rfl, fun base ρ S e w t c z he hw hc => s_lenOf rfl ha hu (.inl ⟨rfl, rfl⟩) hy he hw hc⟩
  case slice el => cases h; exact .inl ⟨rfl, fun base ρ S e w t c z he hw hc => s_lenOf rfl ha hu (.inr (.inl ⟨⟨_, rfl⟩, rfl⟩)) hy he hw hc⟩
  case map k v => cases h; exact .inl ⟨rfl, fun base ρ S e w t c z he hw hc => s_lenOf rfl ha hu (.inr (.inr ⟨⟨_, _, rfl⟩, rfl⟩)) hy he hw hc⟩
theorem sound_append {args : Array Operand} {ats : Array TypeId} {ty : TypeId} {dst : Option Tmp} {pos : String} {after : Array Edge} {guard : Option (Nat × Bool)} {a : AO} {l : List AR} (hl : ofOperands args.toList = some l)
    (h : compB P ats .append l = some a) : Sound P { dst, op := .call { callee := .builtin .append, args, argTypes := ats }, type := ty, pos, after, guard } a := by
  cases l with
  | nil => cases h
  | cons x r =>
  cases r with
  | nil => cases h
  | cons x2 r =>
  cases r with
  | cons _ _ => cases h
  | nil =>
  obtain ⟨y, y2, rfl, hy, hy2⟩ := ofOperands_two hl
  cases ha : ats[0]? with
  | none => simp [compB, ha] at h
  | some t0 =>
  cases ha1 : ats[1]? with
  | none =>
    cases hu : P.underlying t0 with
    | none => simp [compB, ha, ha1, hu] at h
    | some d => cases d <;> simp [compB, ha, ha1, hu] at h
  | some t1 =>
  cases hu : P.underlying t0 with
  | none => simp [compB, ha, hu] at h
  | some d =>
  cases hu1 : P.underlying t1 with
  | none => cases d <;> simp [compB, ha, ha1, hu, hu1] at h
  | some d1 =>
  cases d <;> simp only [compB, ha, ha1, hu, hu1, Option.bind_some] at h <;> try (cases h; done)
  case slice el =>
  cases d1 <;> simp only at h <;> try (cases h; done)
  case slice el1 =>
  obtain ⟨hf, h⟩ := bif_some h
  cases h
  refine .inr (.inr ⟨rfl, rfl, (by intro h; cases h), fun base ρ S e w t c z he hw hc => ?_⟩)
  unfold fullZero at hf
  cases hi : P.info? el with
  | none => rw [hi] at hf; cases hf
  | some i =>
    rw [hi] at hf
    cases hz : i.zero with
    | none => simp [hz] at hf
    | some zv =>
      simp only [Option.bind_some, hz] at hf
      have hf := beq_true hf
      have e1 : sizeT P el = i.size := by unfold sizeT; rw [hi]; rfl
      have e2 : ((P.info? el).map (·.bytes) |>.getD 0) = i.bytes := by rw [hi]; rfl
      have hc' : kAppend el (sizeT P el) ((P.info? el).map (·.bytes) |>.getD 0) x x2 t S c = some z := hc
      rw [e1, e2] at hc'
      exact s_append (s := y) (x := y2) (esz := i.size) (bytes := i.bytes) rfl ha ha1 hu hu1 hi hz (hf.trans e1) rfl rfl hy hy2 he hw hc'
theorem sound_min {args : Array Operand} {ats : Array TypeId} {ty : TypeId} {dst : Option Tmp} {pos : String} {after : Array Edge} {guard : Option (Nat × Bool)} {a : AO} {l : List AR} (hl : ofOperands args.toList = some l)
    (h : compB P ats .min l = some a) : Sound P { dst, op := .call { callee := .builtin .min, args, argTypes := ats }, type := ty, pos, after, guard } a := by
  cases h; exact .inl ⟨rfl, fun base ρ S e w t c z he hw hc => s_minmax rfl (.inr ⟨rfl, rfl⟩) hl he hw hc⟩
theorem sound_max {args : Array Operand} {ats : Array TypeId} {ty : TypeId} {dst : Option Tmp} {pos : String} {after : Array Edge} {guard : Option (Nat × Bool)} {a : AO} {l : List AR} (hl : ofOperands args.toList = some l)
    (h : compB P ats .max l = some a) : Sound P { dst, op := .call { callee := .builtin .max, args, argTypes := ats }, type := ty, pos, after, guard } a := by
  cases h; exact .inl ⟨rfl, fun base ρ S e w t c z he hw hc => s_minmax rfl (.inl ⟨rfl, rfl⟩) hl he hw hc⟩
theorem sound_delete {args : Array Operand} {ats : Array TypeId} {ty : TypeId} {dst : Option Tmp} {pos : String} {after : Array Edge} {guard : Option (Nat × Bool)} {a : AO} {l : List AR} (hl : ofOperands args.toList = some l)
    (h : compB P ats .delete l = some a) : Sound P { dst, op := .call { callee := .builtin .delete, args, argTypes := ats }, type := ty, pos, after, guard } a := by
  cases l with
  | nil => cases h
  | cons x r =>
  cases r with
  | nil => cases h
  | cons x2 r =>
  cases r with
  | cons _ _ => cases h
  | nil =>
  obtain ⟨y, y2, rfl, hy, hy2⟩ := ofOperands_two hl
  obtain ⟨s, hs, rfl⟩ := map_some (show ((ats[0]?).bind (keyOf P)).map (fun s => AO.delete s x x2) = some a from h)
  obtain ⟨t0, ha, hs⟩ := bind_some hs
  obtain ⟨kt, el, d, h1, h2, h3⟩ := keyOf_some hs
  exact .inr (.inr ⟨rfl, rfl, (by intro h; cases h), fun base ρ S e w t c z he hw hc => s_delete rfl ha h1 h2 h3 hy hy2 he hw hc⟩)
theorem sound_clear {args : Array Operand} {ats : Array TypeId} {ty : TypeId} {dst : Option Tmp} {pos : String} {after : Array Edge} {guard : Option (Nat × Bool)} {a : AO} {l : List AR} (hl : ofOperands args.toList = some l)
    (h : compB P ats .clear l = some a) : Sound P { dst, op := .call { callee := .builtin .clear, args, argTypes := ats }, type := ty, pos, after, guard } a := by
  cases l with
  | nil => cases h
  | cons x r =>
  cases r with
  | cons _ _ => cases h
  | nil =>
  obtain ⟨y, rfl, hy⟩ := ofOperands_one hl
  cases ha : ats[0]? with
  | none => simp [compB, ha] at h
  | some t0 =>
  cases hu : P.underlying t0 with
  | none => simp [compB, ha, hu] at h
  | some d =>
  cases d <;> simp only [compB, ha, hu, Option.bind_some] at h <;> try (cases h; done)
  case slice el =>
    obtain ⟨hf, h⟩ := bif_some h
    obtain ⟨zs, hz, rfl⟩ := map_some h
    exact .inr (.inr ⟨rfl, rfl, (by intro h; cases h), fun base ρ S e w t c z he hw hc => s_clear rfl ha hu (fun _ => ⟨el, rfl, hf, hz, rfl⟩) hy he hw hc⟩)
  case map k v =>
    cases h
    exact .inr (.inr ⟨rfl, rfl, (by intro h; cases h), fun base ρ S e w t c z he hw hc => s_clear (esz := 0) (zs := []) rfl ha hu (fun h => absurd h (by omega)) hy he hw hc⟩)
theorem sound_copy {args : Array Operand} {ats : Array TypeId} {ty : TypeId} {dst : Option Tmp} {pos : String} {after : Array Edge} {guard : Option (Nat × Bool)} {a : AO} {l : List AR} (hl : ofOperands args.toList = some l)
    (h : compB P ats .copy l = some a) : Sound P { dst, op := .call { callee := .builtin .copy, args, argTypes := ats }, type := ty, pos, after, guard } a := by
  cases l with
  | nil => cases h
  | cons x r =>
  cases r with
  | nil => cases h
  | cons x2 r =>
  cases r with
  | cons _ _ => cases h
  | nil =>
  obtain ⟨y, y2, rfl, hy, hy2⟩ := ofOperands_two hl
  cases ha : ats[0]? with
  | none => simp [compB, ha] at h
  | some t0 =>
  cases hu : P.underlying t0 with
  | none => simp [compB, ha, hu] at h
  | some d =>
  cases d <;> simp only [compB, ha, hu, Option.bind_some] at h <;> try (cases h; done)
  case slice el =>
    obtain ⟨hk, h⟩ := bif_some h
    cases h
    obtain ⟨_, _, hn⟩ := known_some hk
    exact .inr (.inr ⟨rfl, rfl, (by intro h; cases h), fun base ρ S e w t c z he hw hc => s_copy rfl ha hu hn hy hy2 he hw hc⟩)
theorem sound_call {b : Builtin} {args : Array Operand} {ats : Array TypeId} {ty : TypeId} {dst : Option Tmp} {pos : String} {after : Array Edge} {guard : Option (Nat × Bool)} {a : AO}
    (h0 : compOp? P { dst, op := .call { callee := .builtin b, args, argTypes := ats }, type := ty, pos, after, guard } = some a) : Sound P { dst, op := .call { callee := .builtin b, args, argTypes := ats }, type := ty, pos, after, guard } a := by
  obtain ⟨l, hl, h⟩ := bind_some (show (ofOperands args.toList).bind (compB P ats b) = some a from h0)
  clear h0
  cases b with
  | len => exact sound_len hl h
  | append => exact sound_append hl h
  | min => exact sound_min hl h
  | max => exact sound_max hl h
  | delete => exact sound_delete hl h
  | clear => exact sound_clear hl h
  | copy => exact sound_copy hl h
  | _ => cases h
end Go.Proofs.YtpochibfjpanhaaGreat.Exe
