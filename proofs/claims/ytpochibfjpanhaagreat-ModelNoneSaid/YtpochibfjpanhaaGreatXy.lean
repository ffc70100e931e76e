/- A part of the machine that reckons a closed run, and of the proof that what it says the given program does. No conditions. -/
import Derived.Test.YtpochibfjpanhaaGreatXx
import Derived.Laws.StructEq
import Derived.Laws.Strings
set_option linter.unusedVariables false
set_option linter.unusedSimpArgs false
namespace Go.Proofs.YtpochibfjpanhaaGreat.Exe
open Go
variable {base w : World} {P : Program} {ρ : Rho} {S : AS} {t : T} {e : Operand → Value} {o : Oper} {c : K} {z : AV × Option AS}

/-- A value of a type, by its cells. -/
def asV (P : Program) (ty : TypeId) (us : List Value) (a : Value) : Prop := (aggT P ty = true ∧ a = .agg us.toArray) ∨ (aggT P ty = false ∧ us = [a])

theorem info_under {ty : TypeId} {d : TypeDesc} (h : P.underlying ty = some d) : ∃ i, P.info? ty = some i := by
  unfold Program.underlying at h
  cases hi : P.info? ty with
  | none => rw [hi] at h; cases h
  | some i => exact ⟨i, rfl⟩
theorem run_isAgg_any {ty : TypeId} {d : TypeDesc} (hu : P.underlying ty = some d) (w : World) : (isAgg ty).run P w = .ok (aggT P ty) w := by
  cases h : aggT P ty with
  | false => exact run_isAgg_false hu h w
  | true =>
    unfold isAgg
    rw [Sem.run_bind, run_underlying hu w]
    unfold aggT at h
    rw [hu] at h
    cases d <;> first | rfl | cases h

theorem run_part_of {ty : TypeId} {d : TypeDesc} {n off : Nat} {xs : Array Value} (hu : P.underlying ty = some d) (hn : sizeT P ty = n) (hlen : off + n ≤ xs.size) (h1 : aggT P ty = false → n = 1) (w : World) :
    ∃ a, asV P ty ((xs.toList.drop off).take n) a ∧ (part ty xs off).run P w = .ok a w := by
  obtain ⟨i, hi⟩ := info_under hu
  have hs : i.size = n := by unfold sizeT at hn; rw [hi] at hn; simpa using hn
  unfold part
  rw [Sem.run_bind, run_isAgg_any hu w]
  cases h : aggT P ty with
  | true =>
    refine ⟨.agg (xs.extract off (off + n)), .inl ⟨h, ?_⟩, ?_⟩
    · congr 1
      apply Array.toList_inj.1
      simp [List.extract]
    · simp [sizeOf, typeInfo, hi, hs]
  | false =>
    have := h1 h
    subst this
    have hlt : off < xs.size := by omega
    refine ⟨xs[off], .inr ⟨h, ?_⟩, ?_⟩
    · rw [List.take_one]
      simp [hlt]
    · simp [hlt]

theorem chunk_flat (x : List Nat) : ∀ (n i : Nat), i < n → ((List.replicate n x).flatten.drop (i * x.length)).take x.length = x
  | n + 1, 0, _ => by simp [List.replicate_succ]
  | n + 1, i + 1, h => by
    rw [List.replicate_succ, List.flatten_cons, show (i + 1) * x.length = x.length + i * x.length by rw [Nat.add_mul]; omega, ← List.drop_drop, List.drop_left]
    exact chunk_flat x n i (by omega)

/-- Rows are the same if their chunks are. -/
theorem chunks_eq {A : Type} (m : Nat) : ∀ (n : Nat) (us vs : List A), us.length = n * m → vs.length = n * m → ((∀ i, i < n → (us.drop (i * m)).take m = (vs.drop (i * m)).take m) ↔ us = vs)
  | 0, us, vs, hu, hv => by
    have h1 : us = [] := List.eq_nil_of_length_eq_zero (by omega)
    have h2 : vs = [] := List.eq_nil_of_length_eq_zero (by omega)
    subst h1; subst h2; simp
  | n + 1, us, vs, hu, hv => by
    have e1 : (n + 1) * m = n * m + m := by rw [Nat.add_mul]; omega
    constructor
    · intro h
      have h0 := h 0 (by omega)
      simp only [Nat.zero_mul, List.drop_zero] at h0
      have ih := (chunks_eq m n (us.drop m) (vs.drop m) (by rw [List.length_drop]; omega) (by rw [List.length_drop]; omega)).1 (fun i hi => by
        have := h (i + 1) (by omega)
        rw [show (i + 1) * m = m + i * m by rw [Nat.add_mul]; omega] at this
        rw [List.drop_drop, List.drop_drop]
        exact this)
      rw [← List.take_append_drop m us, ← List.take_append_drop m vs, h0, ih]
    · intro h; subst h; intro i _; rfl

theorem run_eqItems_of {D : Nat} {el : TypeId} {m n : Nat} {xs ys : Array Value} (hstep : ∀ (i : Nat) (w : World), i < n → ∃ a b r, (part el xs (i * m)).run P w = .ok a w ∧ (part el ys (i * m)).run P w = .ok b w ∧ (Op.equalIn D el a b).run P w = .ok r w ∧ (r = true ↔ (xs.toList.drop (i * m)).take m = (ys.toList.drop (i * m)).take m)) (w : World) :
    ∀ (is : List Nat), (∀ i ∈ is, i < n) → ∃ r : Bool, (Op.eqItems D el m xs ys is).run P w = .ok r w ∧ (r = true ↔ ∀ i ∈ is, (xs.toList.drop (i * m)).take m = (ys.toList.drop (i * m)).take m)
  | [], _ => ⟨true, by simp [Op.eqItems], by simp⟩
  | i :: is, h => by
    obtain ⟨a, b, r, p1, p2, p3, hiff⟩ := hstep i w (h i (by simp))
    obtain ⟨r', hr', hiff'⟩ := run_eqItems_of hstep w is (fun j hj => h j (by simp [hj]))
    simp only [Op.eqItems, Sem.run_bind, p1, p2, p3, Result.andThen_ok]
    cases r
    · exact ⟨false, by simp, by simp; intro e; exact absurd (hiff.2 e) (by simp)⟩
    · exact ⟨r', by simpa using hr', by rw [hiff']; simp [hiff.1 rfl]⟩

/-- What a type's cells must be for '==' to be the sameness of the cells. -/
def EqFit (P : Program) (D : Nat) (ty : TypeId) (lay : List (Nat × Nat)) : Prop :=
  ∀ (w : World) (us vs : List Value) (a b : Value), us.map kindV = expandL lay → vs.map kindV = expandL lay → asV P ty us a → asV P ty vs b → ∃ r : Bool, (Op.equalIn D ty a b).run P w = .ok r w ∧ (r = true ↔ us = vs)

theorem kind_int {u : Value} {k : IntKind} (h : kindV u = kindNo k) : ∃ n, u = .int k n := by
  cases u with
  | int j n =>
    have : sameKind j k = true := by
      have h : kindNo j = kindNo k := h
      show Nat.beq (kindNo j) (kindNo k) = true
      rw [h]; exact Nat.beq_refl _
    have := kindNo_inj this
    subst this
    exact ⟨n, rfl⟩
  | _ => cases k <;> simp [kindV, kindNo] at h
theorem kind_bool {u : Value} (h : kindV u = 8) : ∃ b, u = .bool b := by
  cases u with
  | int j n => cases j <;> simp [kindV, kindNo] at h
  | bool b => exact ⟨b, rfl⟩
  | _ => simp [kindV] at h
theorem kind_str {u : Value} (h : kindV u = 9) : ∃ b, u = .string b := by
  cases u with
  | int j n => cases j <;> simp [kindV, kindNo] at h
  | string s => exact ⟨s, rfl⟩
  | _ => simp [kindV] at h
theorem asV_leaf {ty : TypeId} {us : List Value} {a : Value} (hg : aggT P ty = false) (h : asV P ty us a) : us = [a] := by
  rcases h with ⟨g, _⟩ | ⟨_, h⟩
  · rw [hg] at g; cases g
  · exact h

theorem part_step {D : Nat} {el : TypeId} {l : List (Nat × Nat)} {off : Nat} {xs ys : Array Value} {d : TypeDesc} (hu : P.underlying el = some d) (hs : sizeT P el = spanL l) (h1 : aggT P el = false → spanL l = 1) (IH : EqFit P D el l)
    (hx : ((xs.toList.drop off).take (spanL l)).map kindV = expandL l) (hy : ((ys.toList.drop off).take (spanL l)).map kindV = expandL l) (hlx : off + spanL l ≤ xs.size) (hly : off + spanL l ≤ ys.size) (w : World) :
    ∃ a b r, (part el xs off).run P w = .ok a w ∧ (part el ys off).run P w = .ok b w ∧ (Op.equalIn D el a b).run P w = .ok r w ∧ (r = true ↔ (xs.toList.drop off).take (spanL l) = (ys.toList.drop off).take (spanL l)) := by
  obtain ⟨a, ha, pa⟩ := run_part_of hu hs hlx h1 w
  obtain ⟨b, hb, pb⟩ := run_part_of hu hs hly h1 w
  obtain ⟨r, hr, hiff⟩ := IH w _ _ a b hx hy ha hb
  exact ⟨a, b, r, pa, pb, hr, hiff⟩

structure PartOk (P : Program) (D : Nat) (f : Field) (p : Nat × List (Nat × Nat)) : Prop where
  name : f.name ≠ "_"
  off : f.offset = p.1
  size : sizeT P f.type = spanL p.2
  desc : ∃ d, P.underlying f.type = some d
  one : aggT P f.type = false → spanL p.2 = 1
  eq : EqFit P D f.type p.2
inductive Parts (P : Program) (D : Nat) : List Field → List (Nat × List (Nat × Nat)) → Prop where
  | nil : Parts P D [] []
  | cons {f : Field} {p : Nat × List (Nat × Nat)} {fs : List Field} {pl : List (Nat × List (Nat × Nat))} : PartOk P D f p → Parts P D fs pl → Parts P D (f :: fs) (p :: pl)

theorem run_eqFields_of {D : Nat} {xs ys : Array Value} (hsz : xs.size = ys.size) (w : World) : ∀ (fs : List Field) (pl : List (Nat × List (Nat × Nat))) (off : Nat) (lay : List (Nat × Nat)),
    Parts P D fs pl → leafL.seqL off pl = some lay →
    (xs.toList.drop off).map kindV = expandL lay → (ys.toList.drop off).map kindV = expandL lay → ∃ r : Bool, (Op.eqFields D xs ys fs).run P w = .ok r w ∧ (r = true ↔ xs.toList.drop off = ys.toList.drop off)
  | [], pl, off, lay, hf, hl, hx, hy => by
    cases hf
    cases hl
    have e1 : xs.toList.drop off = [] := by simpa [expandL] using hx
    have e2 : ys.toList.drop off = [] := by simpa [expandL] using hy
    exact ⟨true, by simp [Op.eqFields], by rw [e1, e2]; simp⟩
  | f :: fs, pl, off, lay, hf, hl, hx, hy => by
    cases hf with
    | @cons _ p _ pl' h hf' =>
      obtain ⟨hn, hoff, hs, ⟨d, hu⟩, h1, IH⟩ := h
      unfold leafL.seqL at hl
      cases hb : Nat.beq p.1 off with
      | false => rw [hb] at hl; cases hl
      | true =>
        rw [hb] at hl
        have hb := beq_true hb
        simp only [cond_true, Option.map_eq_some_iff] at hl
        obtain ⟨lay', hl', rfl⟩ := hl
        rw [expandL_append] at hx hy
        have hlen : ∀ (zs : Array Value), (zs.toList.drop off).map kindV = expandL p.2 ++ expandL lay' → ((zs.toList.drop off).take (spanL p.2)).map kindV = expandL p.2 ∧ (zs.toList.drop (off + spanL p.2)).map kindV = expandL lay' ∧ spanL p.2 ≤ zs.toList.length - off := by
          intro zs h
          have h3 := congrArg List.length h
          rw [List.length_map, List.length_drop, List.length_append, ← spanL_eq p.2] at h3
          refine ⟨?_, ?_, by omega⟩
          · rw [List.map_take, h, spanL_eq, List.take_left]
          · rw [← List.drop_drop, List.map_drop, h, spanL_eq, List.drop_left]
        obtain ⟨x1, x2, x3⟩ := hlen xs hx
        obtain ⟨y1, y2, y3⟩ := hlen ys hy
        rw [Array.length_toList] at x3 y3
        by_cases h0 : off ≤ xs.size
        · have hoff : f.offset = off := by rw [hoff, hb]
          obtain ⟨a, b, r, p1, p2, p3, hiff⟩ := part_step hu hs h1 IH x1 y1 (by omega) (by omega) w
          obtain ⟨r', hr', hiff'⟩ := run_eqFields_of hsz w fs pl' (off + spanL p.2) lay' hf' hl' x2 y2
          rw [← hoff] at p1 p2
          simp only [Op.eqFields, hn, ne_eq, not_false_eq_true, if_true, Sem.run_bind, p1, p2, p3, Result.andThen_ok]
          have hsplit : xs.toList.drop off = ys.toList.drop off ↔ (xs.toList.drop off).take (spanL p.2) = (ys.toList.drop off).take (spanL p.2) ∧ xs.toList.drop (off + spanL p.2) = ys.toList.drop (off + spanL p.2) := by
            constructor
            · intro h; rw [h, ← List.drop_drop, h, List.drop_drop]; exact ⟨rfl, rfl⟩
            · rintro ⟨h1, h2⟩
              rw [← List.take_append_drop (spanL p.2) (xs.toList.drop off), ← List.take_append_drop (spanL p.2) (ys.toList.drop off), h1, List.drop_drop, List.drop_drop, h2]
          rw [hsplit]
          cases r
          · exact ⟨false, by simp, by simp; intro e; exact absurd (hiff.2 e) (by simp)⟩
          · exact ⟨r', by simpa using hr', by rw [hiff']; simp [hiff.1 rfl]⟩
        · -- nothing is left
          have e1 : spanL p.2 = 0 := by omega
          have hoff' : f.offset = off := by rw [hoff, hb]
          by_cases hg : aggT P f.type = false
          · have := h1 hg; omega
          · have hg : aggT P f.type = true := by cases h : aggT P f.type <;> simp_all
            have px : ∀ zs : Array Value, xs.size = zs.size → (part f.type zs off).run P w = .ok (.agg #[]) w := by
              intro zs hz
              obtain ⟨i, hi⟩ := info_under hu
              have hsi : i.size = 0 := by unfold sizeT at hs; rw [hi, e1] at hs; simpa using hs
              unfold part
              rw [Sem.run_bind, run_isAgg_any hu w, hg]
              simp [sizeOf, typeInfo, hi, hsi]
              omega
            have hexp : expandL p.2 = [] := List.eq_nil_of_length_eq_zero (by rw [← spanL_eq, e1])
            obtain ⟨r, hr, hiff⟩ := IH w [] [] (.agg #[]) (.agg #[]) (by rw [hexp]; rfl) (by rw [hexp]; rfl) (.inl ⟨hg, rfl⟩) (.inl ⟨hg, rfl⟩)
            have hrt := hiff.2 rfl
            subst hrt
            obtain ⟨r', hr', hiff'⟩ := run_eqFields_of hsz w fs pl' (off + spanL p.2) lay' hf' hl' x2 y2
            simp only [Op.eqFields, hn, ne_eq, not_false_eq_true, if_true, Sem.run_bind, hoff', px xs rfl, px ys hsz, hr, Result.andThen_ok]
            refine ⟨r', by simpa using hr', ?_⟩
            rw [hiff', e1]
            rfl

theorem eq_fit : ∀ (d : Nat) (ty : TypeId) (lay : List (Nat × Nat)), leafL P d ty = some lay → (∀ D, EqFit P (D + d) ty lay) ∧ (∃ ds, P.underlying ty = some ds) ∧ (aggT P ty = false → spanL lay = 1)
  | 0, _, _, h => by cases h
  | d + 1, ty, lay, h => by
    unfold leafL at h
    cases hu : P.underlying ty with
    | none => rw [hu] at h; cases h
    | some ds =>
      rw [hu] at h
      have leaf : ∀ k, aggT P ty = false → lay = [(k, 1)] → (∀ (D : Nat) (w : World) (u v : Value), kindV u = k → kindV v = k → ∃ r : Bool, (Op.equalIn (D + 1) ty u v).run P w = .ok r w ∧ (r = true ↔ u = v)) →
          (∀ D, EqFit P (D + (d + 1)) ty lay) ∧ (∃ ds', some ds = some ds') ∧ (aggT P ty = false → spanL lay = 1) := by
        intro k hg hl hk
        subst hl
        refine ⟨fun D w us vs a b hus hvs ha hb => ?_, ⟨ds, rfl⟩, fun _ => rfl⟩
        have e1 := asV_leaf hg ha
        have e2 := asV_leaf hg hb
        subst e1; subst e2
        obtain ⟨r, hr, hiff⟩ := hk (D + d) w a b (by simpa [expandL] using hus) (by simpa [expandL] using hvs)
        exact ⟨r, hr, by rw [hiff]; simp⟩
      cases ds with
      | bool =>
        refine leaf 8 (by unfold aggT; rw [hu]) (by simpa using h.symm) fun D w u v e1 e2 => ?_
        obtain ⟨a, rfl⟩ := kind_bool e1
        obtain ⟨b, rfl⟩ := kind_bool e2
        exact ⟨_, run_equalIn_bool w D ty a b hu, by simp⟩
      | int k =>
        refine leaf (kindNo k) (by unfold aggT; rw [hu]) (by simpa using h.symm) fun D w u v e1 e2 => ?_
        obtain ⟨a, rfl⟩ := kind_int e1
        obtain ⟨b, rfl⟩ := kind_int e2
        exact ⟨_, run_equalIn_int w D ty k k a b hu, by simp⟩
      | string =>
        refine leaf 9 (by unfold aggT; rw [hu]) (by simpa using h.symm) fun D w u v e1 e2 => ?_
        obtain ⟨a, rfl⟩ := kind_str e1
        obtain ⟨b, rfl⟩ := kind_str e2
        refine ⟨_, run_equalIn_string w D ty a b hu, ?_⟩
        simp only [beq_iff_eq, Value.string.injEq]
        constructor
        · intro h
          have h : a.data.toList = b.data.toList := by rw [ByteArray.toList_eq, ByteArray.toList_eq] at h; exact h
          cases a; cases b; congr 1; exact Array.toList_inj.1 h
        · intro h; rw [h]
      | array n el =>
        simp only [Option.bind_eq_some_iff] at h
        obtain ⟨l, hl, h⟩ := h
        cases hb : Nat.beq (sizeT P el) (spanL l) with
        | false => rw [hb] at h; cases h
        | true =>
          rw [hb] at h
          have hs := beq_true hb
          obtain ⟨IH, ⟨de, hue⟩, h1⟩ := eq_fit d el l hl
          have hg : aggT P ty = true := by unfold aggT; rw [hu]
          have hexp : expandL lay = (List.replicate n (expandL l)).flatten := by
            simp only [cond_true] at h
            split at h
            · cases h
              simp [expandL]
            · cases h
              exact expandL_times l n
          obtain ⟨i, hi⟩ := info_under hue
          have hcells : P.cellsOf el = spanL l := hs
          refine ⟨fun D w us vs a b hus hvs ha hb => ?_, ⟨_, rfl⟩, fun h => by rw [hg] at h; cases h⟩
          rcases ha with ⟨_, rfl⟩ | ⟨g, _⟩
          rotate_left
          · rw [hg] at g; cases g
          rcases hb with ⟨_, rfl⟩ | ⟨g, _⟩
          rotate_left
          · rw [hg] at g; cases g
          rw [hexp] at hus hvs
          have hlen : ∀ zs : List Value, zs.map kindV = (List.replicate n (expandL l)).flatten → zs.length = n * spanL l := by
            intro zs h
            have := congrArg List.length h
            rw [List.length_map] at this
            rw [this, spanL_eq]
            simp
          have hch : ∀ (zs : List Value) (i : Nat), zs.map kindV = (List.replicate n (expandL l)).flatten → i < n → ((zs.toArray.toList.drop (i * spanL l)).take (spanL l)).map kindV = expandL l := by
            intro zs i h hi
            rw [List.map_take, List.map_drop]
            show List.take _ (List.drop _ (zs.map kindV)) = _
            rw [h, spanL_eq]
            exact chunk_flat _ n i hi
          have hle : ∀ i, i < n → i * spanL l + spanL l ≤ n * spanL l := fun i hi => by
            have := Nat.mul_le_mul_right (spanL l) (show i + 1 ≤ n from hi)
            rw [Nat.add_mul] at this
            omega
          have hu1 := hlen us hus
          have hv1 := hlen vs hvs
          obtain ⟨r, hr, hiff⟩ := run_eqItems_of (P := P) (D := D + d) (el := el) (m := spanL l) (n := n) (xs := us.toArray) (ys := vs.toArray)
            (fun i w hi => part_step hue hs h1 (IH D) (hch us i hus hi) (hch vs i hvs hi) (by have := hle i hi; simp; omega) (by have := hle i hi; simp; omega) w) w (List.range n) (fun i hi => List.mem_range.1 hi)
          refine ⟨r, ?_, ?_⟩
          · rw [show D + (d + 1) = (D + d) + 1 from rfl, run_equalIn_array w (D + d) _ _ hu hi, hcells]
            exact hr
          · rw [hiff, ← chunks_eq (spanL l) n us vs hu1 hv1]
            simp
      | struct fs =>
        simp only at h
        cases hst : P.stoodInHeld ty with
        | true => rw [hst] at h; cases h
        | false =>
          rw [hst] at h
          simp only [cond_false, Option.bind_eq_some_iff] at h
          obtain ⟨pl, hpl, hseq⟩ := h
          have hg : aggT P ty = true := by unfold aggT; rw [hu]
          have hparts : ∀ (l : List Field) (pl : List (Nat × List (Nat × Nat))), l.foldr (fun f r => r.bind fun r => bif f.name == "_" then none else (leafL P d f.type).bind fun l => bif Nat.beq (sizeT P f.type) (spanL l) then some ((f.offset, l) :: r) else none) (some []) = some pl → ∀ D, Parts P (D + d) l pl := by
            intro l
            induction l with
            | nil => intro pl h D; cases h; exact .nil
            | cons f l ih =>
              intro pl h D
              simp only [List.foldr_cons, Option.bind_eq_some_iff] at h
              obtain ⟨pl', h1, h2⟩ := h
              cases hn : f.name == "_" with
              | true => rw [hn] at h2; cases h2
              | false =>
                rw [hn] at h2
                simp only [cond_false, Option.bind_eq_some_iff] at h2
                obtain ⟨lf, h3, h4⟩ := h2
                cases hb : Nat.beq (sizeT P f.type) (spanL lf) with
                | false => rw [hb] at h4; cases h4
                | true =>
                  rw [hb] at h4
                  cases h4
                  obtain ⟨IH, hd, h1'⟩ := eq_fit d f.type lf h3
                  exact .cons ⟨by simpa using hn, rfl, beq_true hb, hd, h1', IH D⟩ (ih pl' h1 D)
          refine ⟨fun D w us vs a b hus hvs ha hb => ?_, ⟨_, rfl⟩, fun h => by rw [hg] at h; cases h⟩
          rcases ha with ⟨_, rfl⟩ | ⟨g, _⟩
          rotate_left
          · rw [hg] at g; cases g
          rcases hb with ⟨_, rfl⟩ | ⟨g, _⟩
          rotate_left
          · rw [hg] at g; cases g
          have hfs : P.fieldsOf ty = fs := by simp [Program.fieldsOf, hu]
          have hsz : us.toArray.size = vs.toArray.size := by
            have := congrArg List.length (hus.trans hvs.symm)
            simpa using this
          obtain ⟨r, hr, hiff⟩ := run_eqFields_of (xs := us.toArray) (ys := vs.toArray) hsz w fs.toList pl 0 lay (hparts _ _ hpl D) hseq (by simpa using hus) (by simpa using hvs)
          refine ⟨r, ?_, by rw [hiff]; simp⟩
          rw [show D + (d + 1) = (D + d) + 1 from rfl, run_equalIn_struct w (D + d) ty _ _ (by rw [hfs]; exact hu) hst, hfs]
          exact hr
      | _ => cases h

theorem s_eqPlain {op : BinOp} {n : Bool} {ty yt : TypeId} {x y : Operand} {x' y' : AR} {lay : List (Nat × Nat)} (ho : o.op = .binOp op ty x y yt) (hop : negOf op = some n) (hg : aggT P ty = true) (hq : P.eqGuardType P.depth ty = false) (hl : leafL P 20 ty = some lay)
    (hx : ofOperand x = some x') (hy : ofOperand y = some y') (he : EvRel ρ t e) (hw : WRel base ρ S w) (h : kEqPlain n lay x' y' t S c = some z) : OpVal P ρ S e o w c z := by
  obtain ⟨a, hva, h⟩ := onAgg_some h
  obtain ⟨b, hvb, h⟩ := onAgg_some (show onAgg (ev y' t) _ = some z from h)
  obtain ⟨f1, h⟩ := ifB_some (show ifB (fitK a lay) _ none = some z from h)
  obtain ⟨f2, h⟩ := ifB_some (show ifB (fitK b lay) _ none = some z from h)
  obtain ⟨r, hr, h⟩ := onSome_some h
  have hdx := he x x' hx
  have hdy := he y y' hy
  rw [hva] at hdx
  rw [hvb] at hdy
  obtain ⟨us, hex, hc1, _⟩ := row_cells hdx
  obtain ⟨vs, hey, hc2, _⟩ := row_cells hdy
  obtain ⟨q, hq1, hiff⟩ := (eq_fit 20 ty lay hl).1 9980 w us vs _ _ (fitK_some hc1 f1) (fitK_some hc2 f2) (.inl ⟨hg, rfl⟩) (.inl ⟨hg, rfl⟩)
  have e1 : q = r := by
    have := hiff.trans (sameRowK_some hc1 hc2 hr).symm
    cases q <;> cases r <;> simp_all
  subst e1
  have e2 : ifB n (ifB q false true) q = (n != q) := by cases n <;> cases q <;> rfl
  rw [e2] at h
  refine .pure h hw (.bool _) (run_eqOp ho hop hex hey (fun op => ?_) rfl rfl hq1)
  unfold eqGuard
  cases op <;> simp [hq]
end Go.Proofs.YtpochibfjpanhaaGreat.Exe
