/- A part of the machine that reckons a closed run, and of the proof that what it says the given program does. No conditions. -/
import Derived.Test.YtgpbcnagaelhiaaGreatMi
set_option linter.unusedVariables false
set_option linter.unusedSimpArgs false
namespace Go.Proofs.YtgpbcnagaelhiaaGreat.Exe
open Go

/-! ### A state out of a list -/
noncomputable def fillH (l : List OA) : Nat → HT AObj → HT AObj := List.rec (motive := fun _ => Nat → HT AObj → HT AObj) (fun _ h => h) (fun x _ ih i h => ih (Nat.succ i) (h.setK x i)) l
noncomputable def asOf (l : List OA) : AS := { heap := fillH l 0 .nil, next := l.length }
noncomputable def fillC (l : List OA) : Nat → HT AObj → (HT AObj → R) → R := List.rec (motive := fun _ => Nat → HT AObj → (HT AObj → R) → R) (fun _ h k => k h) (fun x _ ih i h k => setHF x h i fun h => forceN (Nat.succ i) fun i => ih i h k) l
noncomputable def asC (l : List OA) (k : AS → R) : R := fillC l 0 .nil fun h => forceN l.length fun n => k { heap := h, next := n }
theorem fillC_eq : ∀ (l : List OA) (i : Nat) (h : HT AObj) (k : HT AObj → R), fillC l i h k = k (fillH l i h)
  | [], _, _, _ => rfl
  | x :: l, i, h, k => by
    show setHF x h i (fun h => forceN (Nat.succ i) fun i => fillC l i h k) = k (fillH l (Nat.succ i) (h.setK x i))
    rw [setHF_eq, forceN_eq, fillC_eq l]
theorem asC_eq (l : List OA) (k : AS → R) : asC l k = k (asOf l) := by
  unfold asC asOf
  rw [fillC_eq, forceN_eq]

/-! ### The numbers of blocks turned -/
noncomputable def reV (f : Nat → Nat) (v : AV) : AV := AV.rec (motive_1 := fun _ => AV) (motive_2 := fun _ => List AV) (fun b => .bool b) (fun k n => .int k n) (fun s => .str s) .pnil (fun p q => .ptr (f p) q) .snil (fun p q l c o => .sl (f p) q l c o) .mnil (fun p => .map (f p)) .fnil (fun g _ _ a c => .fn g a c) .inil (fun t _ i => .ifc t i) (fun _ i => .agg i) (fun l n => .bytes l n) (fun _ i => .tup i) .junk (fun p => .yl (f p)) .any (fun r o => .raw r o) (fun v => .lit v) [] (fun _ _ i is => i :: is) v
noncomputable def reL (f : Nat → Nat) (l : List AV) : List AV := AV.rec_1 (motive_1 := fun _ => AV) (motive_2 := fun _ => List AV) (fun b => .bool b) (fun k n => .int k n) (fun s => .str s) .pnil (fun p q => .ptr (f p) q) .snil (fun p q l c o => .sl (f p) q l c o) .mnil (fun p => .map (f p)) .fnil (fun g _ _ a c => .fn g a c) .inil (fun t _ i => .ifc t i) (fun _ i => .agg i) (fun l n => .bytes l n) (fun _ i => .tup i) .junk (fun p => .yl (f p)) .any (fun r o => .raw r o) (fun v => .lit v) [] (fun _ _ i is => i :: is) l
noncomputable def reC (f : Nat → Nat) (v : AV) : (AV → R) → R := AV.rec (motive_1 := fun _ => (AV → R) → R) (motive_2 := fun _ => (List AV → R) → R) (fun b k => k (.bool b)) (fun j n k => k (.int j n)) (fun s k => k (.str s)) (fun k => k .pnil) (fun p q k => forceN (f p) fun p => k (.ptr p q)) (fun k => k .snil) (fun p q l c o k => forceN (f p) fun p => k (.sl p q l c o)) (fun k => k .mnil) (fun p k => forceN (f p) fun p => k (.map p)) (fun k => k .fnil) (fun g _ _ a c k => a fun a => c fun c => k (.fn g a c)) (fun k => k .inil) (fun t _ i k => i fun v => k (.ifc t v)) (fun _ i k => i fun l => k (.agg l)) (fun l n k => k (.bytes l n)) (fun _ i k => i fun l => k (.tup l)) (fun k => k .junk) (fun p k => forceN (f p) fun p => k (.yl p)) (fun k => k .any) (fun r o k => k (.raw r o)) (fun v k => k (.lit v)) (fun k => k []) (fun _ _ i is k => i fun v => is fun l => k (v :: l)) v
noncomputable def reCs (f : Nat → Nat) (l : List AV) : (List AV → R) → R := AV.rec_1 (motive_1 := fun _ => (AV → R) → R) (motive_2 := fun _ => (List AV → R) → R) (fun b k => k (.bool b)) (fun j n k => k (.int j n)) (fun s k => k (.str s)) (fun k => k .pnil) (fun p q k => forceN (f p) fun p => k (.ptr p q)) (fun k => k .snil) (fun p q l c o k => forceN (f p) fun p => k (.sl p q l c o)) (fun k => k .mnil) (fun p k => forceN (f p) fun p => k (.map p)) (fun k => k .fnil) (fun g _ _ a c k => a fun a => c fun c => k (.fn g a c)) (fun k => k .inil) (fun t _ i k => i fun v => k (.ifc t v)) (fun _ i k => i fun l => k (.agg l)) (fun l n k => k (.bytes l n)) (fun _ i k => i fun l => k (.tup l)) (fun k => k .junk) (fun p k => forceN (f p) fun p => k (.yl p)) (fun k => k .any) (fun r o k => k (.raw r o)) (fun v k => k (.lit v)) (fun k => k []) (fun _ _ i is k => i fun v => is fun l => k (v :: l)) l
mutual
theorem reC_eq (f : Nat → Nat) : ∀ (v : AV) (k : AV → R), reC f v k = k (reV f v)
  | .bool _, _ => rfl
  | .int _ _, _ => rfl
  | .str _, _ => rfl
  | .pnil, _ => rfl
  | .ptr p q, k => (forceN_eq (f p) fun p => k (.ptr p q))
  | .snil, _ => rfl
  | .sl p q l c o, k => (forceN_eq (f p) fun p => k (.sl p q l c o))
  | .mnil, _ => rfl
  | .map p, k => (forceN_eq (f p) fun p => k (.map p))
  | .fnil, _ => rfl
  | .fn g a c, k => by
    show (reCs f a fun a => reCs f c fun c => k (.fn g a c)) = k (.fn g (reL f a) (reL f c))
    rw [reCs_eq f a, reCs_eq f c]
  | .inil, _ => rfl
  | .ifc t v, k => reC_eq f v fun v => k (.ifc t v)
  | .agg cs, k => reCs_eq f cs fun l => k (.agg l)
  | .bytes _ _, _ => rfl
  | .tup cs, k => reCs_eq f cs fun l => k (.tup l)
  | .junk, _ => rfl
  | .yl p, k => (forceN_eq (f p) fun p => k (.yl p))
  | .any, _ => rfl
  | .raw _ _, _ => rfl
  | .lit _, _ => rfl
theorem reCs_eq (f : Nat → Nat) : ∀ (l : List AV) (k : List AV → R), reCs f l k = k (reL f l)
  | [], _ => rfl
  | v :: l, k => by
    show (reC f v fun v => reCs f l fun l => k (v :: l)) = k (reV f v :: reL f l)
    rw [reC_eq f v, reCs_eq f l]
end
noncomputable def reE (f : Nat → Nat) (es : List (AV × AV × Nat)) : List (AV × AV × Nat) := List.rec (motive := fun _ => List (AV × AV × Nat)) [] (fun e _ ih => (reV f e.1, reV f e.2.1, e.2.2) :: ih) es
noncomputable def reEC (f : Nat → Nat) (es : List (AV × AV × Nat)) : (List (AV × AV × Nat) → R) → R := List.rec (motive := fun _ => (List (AV × AV × Nat) → R) → R) (fun k => k []) (fun e _ ih k => reC f e.1 fun a => reC f e.2.1 fun b => ih fun r => k ((a, b, e.2.2) :: r)) es
theorem reEC_eq (f : Nat → Nat) : ∀ (es : List (AV × AV × Nat)) (k : List (AV × AV × Nat) → R), reEC f es k = k (reE f es)
  | [], _ => rfl
  | e :: es, k => by
    show (reC f e.1 fun a => reC f e.2.1 fun b => reEC f es fun r => k ((a, b, e.2.2) :: r)) = k ((reV f e.1, reV f e.2.1, e.2.2) :: reE f es)
    rw [reC_eq, reC_eq, reEC_eq f es]
noncomputable def reO (f : Nat → Nat) (o : OA) : OA := Option.rec (motive := fun _ => OA) none (fun o => AObj.rec (motive := fun _ => OA) (fun e z cs => some (.cells e z (reL f cs))) (fun es c => some (.map (reE f es) c)) (fun _ _ _ _ _ _ _ => none) (fun b => some (.dfr b)) (fun _ _ _ _ => none) o) o
noncomputable def reOC (f : Nat → Nat) (o : OA) (k : OA → R) : R := Option.rec (motive := fun _ => R) (k none) (fun o => AObj.rec (motive := fun _ => R) (fun e z cs => reCs f cs fun cs => k (some (.cells e z cs))) (fun es c => reEC f es fun es => k (some (.map es c))) (fun _ _ _ _ _ _ _ => k none) (fun b => k (some (.dfr b))) (fun _ _ _ _ => k none) o) o
theorem reOC_eq (f : Nat → Nat) (o : OA) (k : OA → R) : reOC f o k = k (reO f o) := by
  cases o with
  | none => rfl
  | some o => cases o <;> first | rfl | exact reCs_eq f _ _ | exact reEC_eq f _ _
theorem isOne_re (f : Nat → Nat) {c : AV} (h : isOne c = true) : isOne (reV f c) = true := by cases c <;> first | rfl | exact h
section
variable {ρ2 ρo : Rho} {f : Nat → Nat}
mutual
theorem Den.re (hf : ∀ a q, ρ2 a = some q → ρo (f a) = some q) : ∀ {v : AV} {u : Value}, Den ρ2 v u → Den ρo (reV f v) u
  | _, _, .bool b => .bool b
  | _, _, .int k n => .int k n
  | _, _, .str s => .str s
  | _, _, .pnil => .pnil
  | _, _, .ptr h => .ptr (hf _ _ h)
  | _, _, .snil => .snil
  | _, _, .sl h => .sl (hf _ _ h)
  | _, _, .sl0 h => .sl0 (hf _ _ h)
  | _, _, .mnil => .mnil
  | _, _, .map h => .map (hf _ _ h)
  | _, _, .fnil => .fnil
  | _, _, .fn a c => .fn (a.re hf) (c.re hf)
  | _, _, .inil => .inil
  | _, _, .ifc a => .ifc (a.re hf)
  | _, _, .agg a => .agg (a.re hf)
  | _, _, .tup a => .tup (a.re hf)
  | _, _, .junk v => .junk v
  | _, _, .yl h => .yl (hf _ _ h)
  | _, _, .any a b => .any a b
  | _, _, .raw r o => .raw r o
  | _, _, .lit a b => .lit a b
theorem DenL.re (hf : ∀ a q, ρ2 a = some q → ρo (f a) = some q) : ∀ {vs : List AV} {us : List Value}, DenL ρ2 vs us → DenL ρo (reL f vs) us
  | _, _, .nil => .nil
  | _, _, .cons a b => .cons (a.re hf) (b.re hf)
theorem Cells.re (hf : ∀ a q, ρ2 a = some q → ρo (f a) = some q) : ∀ {vs : List AV} {us : List Value}, Cells ρ2 vs us → Cells ρo (reL f vs) us
  | _, _, .nil => .nil
  | _, _, .bytes c => .bytes (c.re hf)
  | _, _, .one o d c => .one (isOne_re f o) (d.re hf) (c.re hf)
end
theorem Ents.re (hf : ∀ a q, ρ2 a = some q → ρo (f a) = some q) : ∀ {es : List (AV × AV × Nat)} {ms : List MapEntry}, Ents ρ2 es ms → Ents ρo (reE f es) ms
  | _, _, .nil => .nil
  | _, _, .cons a b c d => .cons (a.re hf) (b.re hf) c (d.re hf)
theorem ORel.re (hf : ∀ a q, ρ2 a = some q → ρo (f a) = some q) {x : Nat} {o : AObj} {u : Obj} {o' : AObj} (h : ORel ρ2 x o u) (e : reO f (some o) = some o') : ORel ρo x o' u := by
  cases h with
  | cells a b c => cases e; exact .cells (a.re hf) b c
  | map a => cases e; exact .map (a.re hf)
  | loop => cases e
  | dfr => cases e; exact .dfr
  | gone => cases e; exact .gone
  | iter => cases e
end

section
variable {A : Nat → Nat → Bool} {f : Nat → Nat}
mutual
theorem Iso.re_eq (hf : ∀ a b, A a b = true → f a = b) : ∀ {x y : AV}, Iso A x y → reV f x = y
  | _, _, .bool _ => rfl
  | _, _, .int _ _ => rfl
  | _, _, .str _ => rfl
  | _, _, .pnil => rfl
  | _, _, .ptr q h => congrArg (fun p => AV.ptr p q) (hf _ _ h)
  | _, _, .snil => rfl
  | _, _, .sl q l c o h => congrArg (fun p => AV.sl p q l c o) (hf _ _ h)
  | _, _, .mnil => rfl
  | _, _, .map h => congrArg AV.map (hf _ _ h)
  | _, _, .fnil => rfl
  | _, _, .fn g a c => by
    have e1 := a.re_eq hf
    have e2 := c.re_eq hf
    subst e1 e2
    rfl
  | _, _, .inil => rfl
  | _, _, .ifc t v => congrArg (AV.ifc t) (v.re_eq hf)
  | _, _, .agg l => congrArg AV.agg (l.re_eq hf)
  | _, _, .bytes _ _ => rfl
  | _, _, .tup l => congrArg AV.tup (l.re_eq hf)
  | _, _, .raw _ _ => rfl
theorem IsoL.re_eq (hf : ∀ a b, A a b = true → f a = b) : ∀ {x y : List AV}, IsoL A x y → reL f x = y
  | _, _, .nil => rfl
  | _, _, .cons v l => by
    have e1 := v.re_eq hf
    have e2 := l.re_eq hf
    subst e1 e2
    rfl
end
theorem reE_iso (hf : ∀ a b, A a b = true → f a = b) : ∀ {x y : List (AV × AV × Nat)}, isoE A x y = true → reE f x = y
  | [], [], _ => rfl
  | [], _ :: _, h => by cases h
  | _ :: _, [], h => by cases h
  | (k, v, b) :: xs, (k', v', b') :: ys, h => by
    obtain ⟨h1, h2, h3, h4⟩ := isoE_cons h
    have e1 := h1.re_eq hf
    have e2 := h2.re_eq hf
    have e4 := reE_iso hf h4
    simp only at e1 e2 h3
    subst e1 e2 h3 e4
    rfl
theorem reO_iso (hf : ∀ a b, A a b = true → f a = b) {oA o o' : AObj} (h : isoO A oA o = true) (e : reO f (some oA) = some o') : o' = o := by
  cases oA with
  | cells e1 z cs =>
    cases o <;> first | (cases h; done) | skip
    rename_i e2 z2 cs2
    obtain ⟨h1, h⟩ := ifB_bool (show ifB (Nat.beq e1 e2) (ifB (Nat.beq z z2) (isoL A cs cs2) false) false = true from h)
    obtain ⟨h2, h3⟩ := ifB_bool h
    have e : some (AObj.cells e1 z (reL f cs)) = some o' := e
    have h1 : e1 = e2 := beq_true h1
    rw [(isoL_iso _ _ h3).re_eq hf, h1, beq_true h2] at e
    exact (Option.some.inj e).symm
  | map es c =>
    cases o <;> first | (cases h; done) | skip
    rename_i es2 c2
    obtain ⟨h1, h2⟩ := ifB_bool (show ifB (Nat.beq c c2) (isoE A es es2) false = true from h)
    have e : some (AObj.map (reE f es) c) = some o' := e
    rw [reE_iso hf h2, beq_true h1] at e
    exact (Option.some.inj e).symm
  | loop => cases e
  | dfr => cases h
  | iter => cases e
end

/-! ### What a record says of a state that holds more -/
noncomputable def rnN (ms : Pairs) (n1 n0 a : Nat) : Nat := ifB (Nat.ble n1 a) (Nat.add n0 (Nat.sub a n1)) (Option.rec (motive := fun _ => Nat) 0 (fun c => c) (lookN ms a))
noncomputable def outA (f : Nat → Nat) (S2 : AS) (ms : Pairs) : HT AObj → HT AObj := List.rec (motive := fun _ => HT AObj → HT AObj) (fun h => h) (fun p _ ih h => ih (h.setK (reO f (S2.heap.getK p.1)) p.2)) ms
noncomputable def outAC (f : Nat → Nat) (S2 : AS) (ms : Pairs) : HT AObj → (HT AObj → R) → R := List.rec (motive := fun _ => HT AObj → (HT AObj → R) → R) (fun h k => k h) (fun p _ ih h k => getHF S2.heap p.1 fun o => reOC f o fun o => setHF o h p.2 fun h => ih h k) ms
theorem outAC_eq (f : Nat → Nat) (S2 : AS) : ∀ (ms : Pairs) (h : HT AObj) (k : HT AObj → R), outAC f S2 ms h k = k (outA f S2 ms h)
  | [], _, _ => rfl
  | p :: ms, h, k => by
    show (getHF S2.heap p.1 fun o => reOC f o fun o => setHF o h p.2 fun h => outAC f S2 ms h k) = k (outA f S2 ms (h.setK (reO f (S2.heap.getK p.1)) p.2))
    rw [getHF_eq, reOC_eq, setHF_eq, outAC_eq f S2 ms]
theorem outA_get (f : Nat → Nat) (S2 : AS) : ∀ (ms : Pairs) (h : HT AObj) {b : Nat} {o : AObj}, (outA f S2 ms h).getK b = some o → (∃ p ∈ ms, p.2 = b ∧ reO f (S2.heap.getK p.1) = some o) ∨ (h.getK b = some o ∧ ∀ p ∈ ms, p.2 ≠ b)
  | [], _, _, _, e => .inr ⟨e, fun _ hp => by cases hp⟩
  | p :: ms, h, b, o, e => by
    have e : (outA f S2 ms (h.setK (reO f (S2.heap.getK p.1)) p.2)).getK b = some o := e
    rcases outA_get f S2 ms _ e with ⟨q, hq, h1, h2⟩ | ⟨h1, h2⟩
    · exact .inl ⟨q, List.mem_cons_of_mem _ hq, h1, h2⟩
    · rcases HT.getK_setK _ _ _ h1 with ⟨h3, h4⟩ | ⟨h3, h4⟩
      · exact .inl ⟨p, List.mem_cons_self, h3.symm, h4⟩
      · refine .inr ⟨h4, fun q hq => ?_⟩
        rcases List.mem_cons.1 hq with rfl | hq
        · exact fun e => h3 e.symm
        · exact h2 q hq
noncomputable def outB (f : Nat → Nat) (S2 : AS) (n1 n0 : Nat) (m : Nat) : HT AObj → HT AObj := Nat.rec (motive := fun _ => HT AObj → HT AObj) (fun h => h) (fun m ih h => (ih h).setK (reO f (S2.heap.getK (Nat.add n1 m))) (Nat.add n0 m)) m
noncomputable def outBC (f : Nat → Nat) (S2 : AS) (n1 n0 : Nat) (m : Nat) : HT AObj → (HT AObj → R) → R := Nat.rec (motive := fun _ => HT AObj → (HT AObj → R) → R) (fun h k => k h) (fun m ih h k => ih h fun h => forceN (Nat.add n1 m) fun a => forceN (Nat.add n0 m) fun b => getHF S2.heap a fun o => reOC f o fun o => setHF o h b k) m
theorem outBC_eq (f : Nat → Nat) (S2 : AS) (n1 n0 : Nat) : ∀ (m : Nat) (h : HT AObj) (k : HT AObj → R), outBC f S2 n1 n0 m h k = k (outB f S2 n1 n0 m h)
  | 0, _, _ => rfl
  | m + 1, h, k => by
    show (outBC f S2 n1 n0 m h fun h => forceN (Nat.add n1 m) fun a => forceN (Nat.add n0 m) fun b => getHF S2.heap a fun o => reOC f o fun o => setHF o h b k) = k ((outB f S2 n1 n0 m h).setK (reO f (S2.heap.getK (Nat.add n1 m))) (Nat.add n0 m))
    rw [outBC_eq f S2 n1 n0 m, forceN_eq, forceN_eq, getHF_eq, reOC_eq, setHF_eq]
theorem outB_get (f : Nat → Nat) (S2 : AS) (n1 n0 : Nat) : ∀ (m : Nat) (h : HT AObj) {b : Nat} {o : AObj}, (outB f S2 n1 n0 m h).getK b = some o → (∃ i, i < m ∧ b = n0 + i ∧ reO f (S2.heap.getK (n1 + i)) = some o) ∨ (h.getK b = some o ∧ ∀ i, i < m → b ≠ n0 + i)
  | 0, _, _, _, e => .inr ⟨e, fun _ hi => by omega⟩
  | m + 1, h, b, o, e => by
    have e : ((outB f S2 n1 n0 m h).setK (reO f (S2.heap.getK (Nat.add n1 m))) (Nat.add n0 m)).getK b = some o := e
    rcases HT.getK_setK _ _ _ e with ⟨h1, h2⟩ | ⟨h1, h2⟩
    · exact .inl ⟨m, by omega, h1, h2⟩
    · rcases outB_get f S2 n1 n0 m h h2 with ⟨i, h3, h4, h5⟩ | ⟨h3, h4⟩
      · exact .inl ⟨i, by omega, h4, h5⟩
      · refine .inr ⟨h3, fun i hi => ?_⟩
        by_cases he : i = m
        · subst he; exact h1
        · exact h4 i (by omega)
/-- A record: of a call with these arguments, in a state with these objects: what it comes to. -/
structure Rec where
  f : FuncId
  xs : List AV
  l : List OA
  v : AV
  l2 : List OA
noncomputable def recCheck (ms : Pairs) (rxs : List AV) (SA : AS) (xs : List AV) (S : AS) : Bool :=
  andB (apartP ms) <| andB (isoL (okA 0 ms) rxs xs) <| allP (fun p => andB (Option.rec (motive := fun _ => Bool) false (fun c => Nat.beq c p.2) (lookN ms p.1)) <| andB (Nat.ble (Nat.succ p.1) SA.next) (andB (Nat.ble (Nat.succ p.2) S.next) (Option.rec (motive := fun _ => Bool) false (fun oA => Option.rec (motive := fun _ => Bool) false (fun o => isoO (okA 0 ms) oA o) (S.heap.getK p.2)) (SA.heap.getK p.1)))) ms
noncomputable def recOut (ms : Pairs) (n1 : Nat) (v : AV) (S2 : AS) (S : AS) (k : K) : R :=
  forceN S.next fun n0 => reC (rnN ms n1 n0) v fun v => outAC (rnN ms n1 n0) S2 ms S.heap fun h => forceN (Nat.sub S2.next n1) fun m => outBC (rnN ms n1 n0) S2 n1 n0 m h fun h => forceN (Nat.add n0 m) fun n => k v { heap := h, next := n }
theorem recOut_eq (ms : Pairs) (n1 : Nat) (v : AV) (S2 S : AS) (k : K) : recOut ms n1 v S2 S k = k (reV (rnN ms n1 S.next) v) { heap := outB (rnN ms n1 S.next) S2 n1 S.next (S2.next - n1) (outA (rnN ms n1 S.next) S2 ms S.heap), next := S.next + (S2.next - n1) } := by
  unfold recOut
  rw [forceN_eq, reC_eq, outAC_eq, forceN_eq, outBC_eq, forceN_eq]
  rfl
noncomputable def recOf (r : Rec) : RF := fun xs S k miss => asC r.l fun SA => pairsK 0 (.tup r.xs) SA (.tup xs) S fun ms => ifB (recCheck ms r.xs SA xs S) (asC r.l2 fun S2 => recOut ms SA.next r.v S2 S k) miss
theorem pairsK_eq (n0 : Nat) (v2 : AV) (S2 : AS) (v : AV) (S' : AS) (k : Pairs → R) : ∃ ms, pairsK n0 v2 S2 v S' k = k ms := by
  unfold pairsK
  rw [forceL_eq]
  obtain ⟨m1, h1⟩ := oldP_eq n0 S2 S' n0 (zipK n0 (addrsV v2 []) (addrsV v []) []) fun ms => newP n0 S2 S' 1000000 0 ms k
  rw [h1]
  exact newP_eq n0 S2 S' 1000000 0 m1 k
/-- What a record says, it is. -/
def RecOK (P : Program) (r : Rec) : Prop := ∀ (base : Base) (ρ : Rho) (w : World) (us : List Value), WRel base ρ (asOf r.l) w → DenL ρ r.xs us →
  CEOK P ρ (.fn r.f) us w fun e w' => ∃ ρ2 u, e = .returned u ∧ ρ.le ρ2 ∧ Keep ρ ρ2 (asOf r.l) (asOf r.l2) ∧ WRel base ρ2 (asOf r.l2) w' ∧ Den ρ2 r.v u
theorem CEOK.mono {P : Program} {ρ : Rho} {g : FuncId} {us : List Value} {w : World} {R R' : Ending → World → Prop} (h : CEOK P ρ (.fn g) us w R) (hR : ∀ e w', R e w' → R' e w') : CEOK P ρ (.fn g) us w R' := ⟨CallsIn.mono h.1 hR, h.2⟩
theorem okA_zero {ms : Pairs} {a b : Nat} (h : okA 0 ms a b = true) : lookN ms a = some b := by
  have h : Option.rec (motive := fun _ => Bool) false (fun c => Nat.beq c b) (lookN ms a) = true := h
  cases e : lookN ms a with
  | none => rw [e] at h; cases h
  | some c => rw [e] at h; rw [beq_true h]
theorem recOf_ok {P : Program} {r : Rec} (hr : RecOK P r) : RfOK P r.f (recOf r) := by
  intro base ρ S w xs us k miss z R hw hx h hR
  have h : asC r.l (fun SA => pairsK 0 (.tup r.xs) SA (.tup xs) S fun ms => ifB (recCheck ms r.xs SA xs S) (asC r.l2 fun S2 => recOut ms SA.next r.v S2 S k) miss) = some z := h
  rw [asC_eq] at h
  obtain ⟨ms, hms⟩ := pairsK_eq 0 (.tup r.xs) (asOf r.l) (.tup xs) S fun ms => ifB (recCheck ms r.xs (asOf r.l) xs S) (asC r.l2 fun S2 => recOut ms (asOf r.l).next r.v S2 S k) miss
  rw [hms] at h
  rcases ifB_or h with ⟨hc, h⟩ | ⟨_, h⟩
  case inr => exact .inl h
  refine .inr ?_
  rw [asC_eq, recOut_eq] at h
  obtain ⟨c1, hc⟩ := ifB_bool hc
  obtain ⟨c2, c3⟩ := ifB_bool hc
  have c4 : ∀ p ∈ ms, lookN ms p.1 = some p.2 := fun p hp => by
    obtain ⟨d1, _⟩ := ifB_bool (allP_mem c3 p hp)
    cases e : lookN ms p.1 with
    | none => rw [e] at d1; cases d1
    | some c => rw [e] at d1; rw [beq_true d1]
  have c3 : ∀ p ∈ ms, p.1 < (asOf r.l).next ∧ p.2 < S.next ∧ ∃ oA o, (asOf r.l).heap.getK p.1 = some oA ∧ S.heap.getK p.2 = some o ∧ isoO (okA 0 ms) oA o = true := fun p hp => by
    obtain ⟨_, d⟩ := ifB_bool (allP_mem c3 p hp)
    obtain ⟨d1, d⟩ := ifB_bool d
    obtain ⟨d2, d3⟩ := ifB_bool d
    refine ⟨ble_true d1, ble_true d2, ?_⟩
    cases e1 : (asOf r.l).heap.getK p.1 with
    | none => rw [e1] at d3; cases d3
    | some oA =>
      cases e2 : S.heap.getK p.2 with
      | none => rw [e1, e2] at d3; cases d3
      | some o => rw [e1, e2] at d3; exact ⟨oA, o, rfl, rfl, d3⟩
  obtain ⟨n1, hn1⟩ : ∃ n1, n1 = (asOf r.l).next := ⟨_, rfl⟩
  rw [← hn1] at h c3
  -- what the record's numbers stand for
  obtain ⟨ρA, hρA⟩ : ∃ ρA : Rho, ∀ a, ρA a = (lookN ms a).bind ρ := ⟨fun a => (lookN ms a).bind ρ, fun _ => rfl⟩
  have hA : ∀ a b, okA 0 ms a b = true → ρA a = ρ b := fun a b e => by rw [hρA, okA_zero e]; rfl
  have get : ∀ {a q}, ρA a = some q → ∃ c, lookN ms a = some c ∧ ρ c = some q := fun {a q} e => by
    rw [hρA] at e
    exact Option.bind_eq_some_iff.1 e
  have liv : ∀ {a c}, lookN ms a = some c → S.live c := fun {a c} e => by
    obtain ⟨_, _, _, o, _, e2, _⟩ := c3 (a, c) (lookN_mem e)
    exact ⟨o, e2⟩
  have hwA : WRel ⟨w, fun q => ∃ a x, ρA a = some (q, x)⟩ ρA (asOf r.l) w := by
    refine { low := fun _ _ _ => rfl, size := Nat.le_refl _, os := rfl, output := rfl, tape := rfl, dom := fun b hb => ?_, rng := fun b q x e => ?_, inj := fun a b q x y _ _ ea eb => ?_, obj := fun a o q x ho e => ?_ }
    · rw [hρA]
      cases e : lookN ms b with
      | none => rfl
      | some c =>
        have := (c3 (b, c) (lookN_mem e)).1
        omega
    · obtain ⟨c, _, e2⟩ := get e
      exact ⟨.inr ⟨b, x, e⟩, (hw.rng c q x e2).2⟩
    · obtain ⟨c, l1, e1⟩ := get ea
      obtain ⟨d, l2, e2⟩ := get eb
      have := hw.inj c d q x y (liv l1) (liv l2) e1 e2
      subst this
      exact apartP_inj c1 (lookN_mem l1) (lookN_mem l2)
    · obtain ⟨c, l1, e1⟩ := get e
      obtain ⟨_, _, oA, o', g1, g2, g3⟩ := c3 (a, c) (lookN_mem l1)
      have g1 : (asOf r.l).heap.getK a = some oA := g1
      rw [ho] at g1
      cases g1
      obtain ⟨u, hu, hrel⟩ := hw.obj c o' q x g2 e1
      exact ⟨u, hu, isoO_rel hA g3 hrel⟩
  refine (hr _ ρA w us hwA ((isoL_iso _ _ c2).den hA hx)).mono fun e w' ⟨ρ2, u, he, hle, hk, hw2, hd⟩ => ?_
  subst he
  have hk1 : n1 ≤ (asOf r.l2).next := by rw [hn1]; exact hk.1
  have hk2 : ∀ a, a < n1 → ρA a = none → ρ2 a = none := fun a ha e => (hk.2 a (by rw [← hn1]; exact ha) e).1
  have hk3 : ∀ a, a < n1 → ρA a = none → ∀ o, (asOf r.l2).heap.getK a = some o → (asOf r.l).heap.getK a = some o := fun a ha e => (hk.2 a (by rw [← hn1]; exact ha) e).2
  generalize asOf r.l2 = S2 at h hk1 hk3 hw2
  -- all numbers, behind it
  obtain ⟨ρo, hρo⟩ : ∃ ρo : Rho, ∀ b, ρo b = if b < S.next then ρ b else ρ2 (n1 + (b - S.next)) := ⟨fun b => if b < S.next then ρ b else ρ2 (n1 + (b - S.next)), fun _ => rfl⟩
  have old : ∀ {b}, b < S.next → ρo b = ρ b := fun hb => by rw [hρo, if_pos hb]
  have new : ∀ i, ρo (S.next + i) = ρ2 (n1 + i) := fun i => by rw [hρo, if_neg (by omega)]; congr 1; omega
  have hlo : ρ.le ρo := fun b q e => by
    have : b < S.next := by
      rcases Nat.lt_or_ge b S.next with hb | hb
      · exact hb
      · rw [hw.dom b hb] at e; cases e
    rw [old this]; exact e
  have hf : ∀ a q, ρ2 a = some q → ρo (rnN ms n1 S.next a) = some q := fun a q e => by
    unfold rnN
    rcases Nat.lt_or_ge a n1 with ha | ha
    · rw [show Nat.ble n1 a = false from Bool.eq_false_iff.2 fun h => by have := ble_true h; omega]
      cases hA2 : ρA a with
      | none => rw [hk2 a ha hA2] at e; cases e
      | some q' =>
        have e3 := hle _ _ hA2
        rw [e] at e3
        cases e3
        obtain ⟨c, l1, e1⟩ := get hA2
        rw [l1]
        show ρo c = some q
        rw [old (c3 (a, c) (lookN_mem l1)).2.1]
        exact e1
    · rw [show Nat.ble n1 a = true from Nat.ble_eq_true_of_le ha]
      show ρo (S.next + (a - n1)) = some q
      rw [new, Nat.add_sub_cancel' ha]
      exact e
  -- who is ours is in the record
  have own : ∀ {b q x}, S.live b → ρ b = some (q, x) → (∃ a y, ρA a = some (q, y)) → ∃ a, lookN ms a = some b := fun {b q x} hb e ⟨a, y, e2⟩ => by
    obtain ⟨c, l1, e1⟩ := get e2
    have := hw.inj b c q x y hb (liv l1) e e1
    subst this
    exact ⟨a, l1⟩
  have hS : ∀ {b o}, (outB (rnN ms n1 S.next) S2 n1 S.next (S2.next - n1) (outA (rnN ms n1 S.next) S2 ms S.heap)).getK b = some o →
      (∃ i, b = S.next + i ∧ ∃ o2, S2.heap.getK (n1 + i) = some o2 ∧ reO (rnN ms n1 S.next) (some o2) = some o) ∨
      (b < S.next ∧ ∃ a, (a, b) ∈ ms ∧ ∃ o2, S2.heap.getK a = some o2 ∧ reO (rnN ms n1 S.next) (some o2) = some o) ∨
      ((∀ i, i < S2.next - n1 → b ≠ S.next + i) ∧ S.heap.getK b = some o ∧ ∀ a, (a, b) ∉ ms) := fun {b o} e => by
    have some2 : ∀ {x : OA}, reO (rnN ms n1 S.next) x = some o → ∃ o2, x = some o2 ∧ reO (rnN ms n1 S.next) (some o2) = some o := fun {x} h => by
      cases x with
      | none => cases h
      | some o2 => exact ⟨o2, rfl, h⟩
    rcases outB_get _ _ _ _ _ _ e with ⟨i, h1, h2, h3⟩ | ⟨h1, h2⟩
    · exact .inl ⟨i, h2, some2 h3⟩
    · rcases outA_get _ _ _ _ h1 with ⟨p, hp, h3, h4⟩ | ⟨h3, h4⟩
      · subst h3
        exact .inr (.inl ⟨(c3 p hp).2.1, p.1, hp, some2 h4⟩)
      · exact .inr (.inr ⟨h2, h3, fun a ha => h4 _ ha rfl⟩)
  have live_lt : ∀ {b q}, (∀ i, i < S2.next - n1 → b ≠ S.next + i) → ρo b = some q → b < S.next := fun {b q} hn e => by
    rcases Nat.lt_or_ge b S.next with hb | hb
    · exact hb
    · rw [hρo, if_neg (by omega)] at e
      rcases Nat.lt_or_ge (n1 + (b - S.next)) S2.next with h3 | h3
      · exact absurd (by omega) (hn (b - S.next) (by omega))
      · rw [hw2.dom _ h3] at e; cases e
  have look : ∀ {a b q x}, (a, b) ∈ ms → ρ b = some (q, x) → ρ2 a = some (q, x) := fun {a b q x} hm e => by
    exact hle _ _ (by rw [hρA, c4 _ hm]; exact e)
  refine hR _ _ ρo w' u h hlo ⟨Nat.le_add_right _ _, fun b hb e => ⟨by rw [old hb]; exact e, fun o ho => ?_⟩⟩ ?_ (hd.re hf)
  · rcases hS ho with ⟨i, h1, _⟩ | ⟨_, a, h1, o2, h2, h3⟩ | ⟨_, h2, _⟩
    · omega
    · obtain ⟨q1, q2, oA, o', q3, q4, q5⟩ := c3 _ h1
      have e1 : ρA a = none := by rw [hρA, c4 _ h1]; exact e
      have e2 := hk3 a q1 e1 _ h2
      have q3 : (asOf r.l).heap.getK a = some oA := q3
      rw [e2] at q3
      cases q3
      rw [reO_iso (fun a' b' h' => ?_) q5 h3]
      · exact q4
      · have l1 := okA_zero h'
        have : a' < n1 := (c3 _ (lookN_mem l1)).1
        unfold rnN
        rw [show Nat.ble n1 a' = false from Bool.eq_false_iff.2 fun h => by have := ble_true h; omega, l1]
        rfl
    · exact h2
  refine { low := fun q hq ho => ?_, size := Nat.le_trans hw.size hw2.size, os := hw2.os.trans hw.os, output := hw2.output.trans hw.output, tape := hw2.tape.trans hw.tape, dom := fun b hb => ?_, rng := fun b q x e => ?_, inj := fun b c q x y ⟨ob, hb⟩ ⟨oc, hc⟩ eb ec => ?_, obj := fun b o q x hb e => ?_ }
  · refine (hw2.low q (Nat.lt_of_lt_of_le hq hw.size) fun ⟨a, x, e⟩ => ?_).trans (hw.low q hq ho)
    obtain ⟨c, _, e1⟩ := get e
    exact (hw.rng c q x e1).1.elim (fun g => by omega) ho
  · have hb : S.next + (S2.next - n1) ≤ b := hb
    rw [hρo, if_neg (by omega)]
    exact hw2.dom _ (by omega)
  · rcases Nat.lt_or_ge b S.next with hb | hb
    · rw [old hb] at e
      have := hw.rng b q x e
      exact ⟨this.1, Nat.lt_of_lt_of_le this.2 hw2.size⟩
    · rw [hρo, if_neg (by omega)] at e
      obtain ⟨g1, g2⟩ := hw2.rng _ q x e
      refine ⟨?_, g2⟩
      rcases g1 with g1 | ⟨a, y, e2⟩
      · exact .inl (Nat.le_trans hw.size g1)
      · obtain ⟨c, _, e1⟩ := get e2
        exact (hw.rng c q y e1).1
  · -- two live numbers of one block
    have side : ∀ {b c o1 o2 q x y i a}, (a, b) ∈ ms → S2.heap.getK a = some o1 → ρ b = some (q, x) → S2.heap.getK (n1 + i) = some o2 → ρ2 (n1 + i) = some (q, y) → b = c := fun {b c o1 o2 q x y i a} hm h1 e h2 e2 => by
      have := hw2.inj a (n1 + i) q x y ⟨_, h1⟩ ⟨_, h2⟩ (look hm e) e2
      have := (c3 _ hm).1
      simp only at this
      omega
    have side2 : ∀ {b c o o2 q x y i}, S.heap.getK b = some o → (∀ a, (a, b) ∉ ms) → ρ b = some (q, x) → S2.heap.getK (n1 + i) = some o2 → ρ2 (n1 + i) = some (q, y) → b = c := fun {b c o o2 q x y i} h1 hno e h2 e2 => by
      rcases (hw2.rng _ _ _ e2).1 with g | g
      · have g : w.heap.size ≤ q := g
        have := (hw.rng b q x e).2
        omega
      · obtain ⟨a, l1⟩ := own ⟨_, h1⟩ e g
        exact absurd (lookN_mem l1) (hno a)
    rcases hS hb with ⟨i, h1, o1, h2, _⟩ | ⟨hbl, a, h1, o1, h2, _⟩ | ⟨hbn, h1, hno⟩ <;> rcases hS hc with ⟨j, g1, o2, g2, _⟩ | ⟨hcl, a', g1, o2, g2, _⟩ | ⟨hcn, g1, gno⟩
    · subst h1 g1
      rw [new] at eb ec
      have := hw2.inj _ _ q x y ⟨_, h2⟩ ⟨_, g2⟩ eb ec
      omega
    · subst h1
      rw [new] at eb
      rw [old hcl] at ec
      exact (side g1 g2 ec h2 eb).symm
    · subst h1
      rw [new] at eb
      have hcl : c < S.next := live_lt hcn ec
      rw [old hcl] at ec
      exact (side2 g1 gno ec h2 eb).symm
    · subst g1
      rw [new] at ec
      rw [old hbl] at eb
      exact side h1 h2 eb g2 ec
    · rw [old hbl] at eb
      rw [old hcl] at ec
      exact hw.inj b c q x y (liv (c4 _ h1)) (liv (c4 _ g1)) eb ec
    · have hcl : c < S.next := live_lt hcn ec
      rw [old hbl] at eb
      rw [old hcl] at ec
      exact hw.inj b c q x y (liv (c4 _ h1)) ⟨_, g1⟩ eb ec
    · subst g1
      rw [new] at ec
      have hbl : b < S.next := live_lt hbn eb
      rw [old hbl] at eb
      exact side2 h1 hno eb g2 ec
    · have hbl : b < S.next := live_lt hbn eb
      rw [old hbl] at eb
      rw [old hcl] at ec
      exact hw.inj b c q x y ⟨_, h1⟩ (liv (c4 _ g1)) eb ec
    · have hbl : b < S.next := live_lt hbn eb
      have hcl : c < S.next := live_lt hcn ec
      rw [old hbl] at eb
      rw [old hcl] at ec
      exact hw.inj b c q x y ⟨_, h1⟩ ⟨_, g1⟩ eb ec
  · rcases hS hb with ⟨i, h1, o2, h2, h3⟩ | ⟨hbl, a, h1, o2, h2, h3⟩ | ⟨hbn, h1, hno⟩
    · subst h1
      rw [new] at e
      obtain ⟨u', hu, hrel⟩ := hw2.obj _ o2 q x h2 e
      exact ⟨u', hu, hrel.re hf h3⟩
    · rw [old hbl] at e
      obtain ⟨u', hu, hrel⟩ := hw2.obj a o2 q x h2 (look h1 e)
      exact ⟨u', hu, hrel.re hf h3⟩
    · have hbl : b < S.next := live_lt hbn e
      rw [old hbl] at e
      obtain ⟨u', hu, hrel⟩ := hw.obj b o q x h1 e
      refine ⟨u', ?_, hrel.mono hlo⟩
      rw [hw2.low q (hw.rng b q x e).2 fun hown => ?_]
      · exact hu
      · obtain ⟨a, l1⟩ := own ⟨_, h1⟩ e hown
        exact hno a (lookN_mem l1)
end Go.Proofs.YtgpbcnagaelhiaaGreat.Exe
namespace Go.Proofs.YtgpbcnagaelhiaaGreat.Exe
open Go
/-- What a call comes to, for a text that prints it. -/
noncomputable def tellK : K := fun v S' => some (v, some S')
section
variable {P : Program} {tab : Opt} (hX : OptOK P tab) (hM : MemoOK P tab.memo) (hm : P.follows .mixedOrders = true) (hN : NamesOk P)
include hX hM hm hN
/-- What our machine says of a call in a state of some objects is a record. -/
theorem rec_run {r : Rec} {n : Nat} (h : asC r.l (fun S => sndF (bothF (tabOf P P.funcs.toList 0 .nil) (comp P true) tab n) (.fn r.f) r.xs S (fun v S' => asC r.l2 fun S2 => matchK S r.v S2 v S')) = some (.bool true, none)) : RecOK P r := by
  rw [asC_eq, sndF_eq] at h
  intro base ρ w us hw hl
  refine (both_ok hX hM tabOf_ok hm hN n).2 base ρ _ w (.fn r.f) r.xs us _ _ _ hw hl h fun v S' ρ' w' u g1 g2 g3 g4 g5 => ?_
  rw [asC_eq] at g1
  obtain ⟨ms, hms⟩ := matchK_some g1
  obtain ⟨ρ2, r1, r2, r3, r4⟩ := match_ok hw hms g2 g3 g4 g5
  exact ⟨ρ2, u, rfl, r1, r2, r3, r4⟩
end
end Go.Proofs.YtgpbcnagaelhiaaGreat.Exe
