/- A part of the machine that reckons a closed run, and of the proof that what it says the given program does. No conditions. -/
import Derived.Test.YtpochibfjpanhaaGreatXe
set_option linter.unusedVariables false
set_option linter.unusedSimpArgs false
namespace Go.Proofs.YtpochibfjpanhaaGreat.Exe
open Go

/-! ### The worlds -/
inductive Ents (ρ : Rho) : List (AV × AV × Nat) → List MapEntry → Prop where
  | nil : Ents ρ [] []
  | cons {k v : AV} {b : Nat} {es : List (AV × AV × Nat)} {m : MapEntry} {ms : List MapEntry} : Den ρ k m.key → Den ρ v m.val → m.born = b → Ents ρ es ms → Ents ρ ((k, v, b) :: es) (m :: ms)
theorem Ents.mono {ρ σ : Rho} (h : ρ.le σ) : ∀ {es : List (AV × AV × Nat)} {ms : List MapEntry}, Ents ρ es ms → Ents σ es ms
  | _, _, .nil => .nil
  | _, _, .cons a b c d => .cons (a.mono h) (b.mono h) c (d.mono h)

/-- No cell of a row of 'n' is frozen. -/
def FzOk (fz : Nat × Nat) (n : Nat) : Prop := fz.1 = fz.2 ∨ n ≤ fz.1
theorem FzOk.free {fz : Nat × Nat} {n : Nat} (h : FzOk fz n) : ∀ o, o < n → ¬ (fz.1 ≤ o ∧ o < fz.2) := fun o ho hc => by
  rcases h with h | h <;> omega
def stNo : LoopState → Nat | .ready => 0 | .busy => 1 | .done => 2 | .exhausted => 3
def pendOf : Option Nat → Option Code | none => none | some 0 => some .ret | some (i + 1) => some (.exit i)
def IterRel (ρ : Rho) : Option Nat → Option Nat → Prop
  | none, none => True
  | some b, some r => ∃ x, ρ b = some (r, x)
  | _, _ => False
theorem IterRel.mono {ρ σ : Rho} (h : ρ.le σ) : ∀ {m m' : Option Nat}, IterRel ρ m m' → IterRel σ m m'
  | none, none, _ => trivial
  | some _, some _, ⟨x, e⟩ => ⟨x, h _ _ e⟩
/-- A block of ours and the world's object; 'x': how many elements more it has. -/
inductive ORel (ρ : Rho) (x : Nat) : AObj → Obj → Prop where
  | cells {e : TypeId} {z : Nat} {cs : List AV} {us tail : List Value} {fz : Nat × Nat} : Cells ρ cs us → tail.length = x * z → FzOk fz (us.length + tail.length) →
      ORel ρ x (.cells e z cs) (.cells (us ++ tail).toArray e fz)
  | map {es : List (AV × AV × Nat)} {ms : List MapEntry} {c : Nat} : Ents ρ es ms → ORel ρ x (.map es c) (.map ms.toArray c)
  | loop {st n : Nat} {pe : Option Nat} {t : T} {ps : List (List D4)} {asg c : Code} {r : Loop} : stNo r.state = st → pendOf pe = r.pending → (∀ m, Den ρ (evTmp (pathOf m) t) (r.tmps.getD m undef)) → ps = r.params.toList.map pathOf → (∀ p ∈ r.params, p < n) → r.assign = asg → r.body = c → n ≤ r.tmps.size →
      ORel ρ x (.loop st pe t ps asg c n) (.loop r)
  | dfr : ORel ρ x (.dfr true) (.deferred (some []))
  | gone : ORel ρ x (.dfr false) (.deferred none)
  | iter {m : Option Nat} {m' : Option Nat} {since last : Nat} {seen : List Nat} : IterRel ρ m m' → ORel ρ x (.iter m since seen last) (.mapIter m' since seen.toArray last)
theorem ORel.mono {ρ σ : Rho} (h : ρ.le σ) {x : Nat} {o : AObj} {u : Obj} (r : ORel ρ x o u) : ORel σ x o u := by
  cases r with
  | cells a b c => exact .cells (a.mono h) b c
  | map a => exact .map (a.mono h)
  | loop a b c d e f g i => exact .loop a b (fun m => (c m).mono h) d e f g i
  | dfr => exact .dfr
  | gone => exact .gone
  | iter a => exact .iter (a.mono h)

def AS.live (S : AS) (b : Nat) : Prop := ∃ o, S.heap.getK b = some o

structure WRel (base : World) (ρ : Rho) (S : AS) (w : World) : Prop where
  low : ∀ r, r < base.heap.size → w.heap[r]? = base.heap[r]?
  size : base.heap.size ≤ w.heap.size
  os : w.os = base.os
  output : w.output = base.output
  tape : w.tape = base.tape
  dom : ∀ b, S.next ≤ b → ρ b = none
  rng : ∀ b r x, ρ b = some (r, x) → base.heap.size ≤ r ∧ r < w.heap.size
  inj : ∀ b c r x y, S.live b → S.live c → ρ b = some (r, x) → ρ c = some (r, y) → b = c
  obj : ∀ b o r x, S.heap.getK b = some o → ρ b = some (r, x) → ∃ u, w.heap[r]? = some u ∧ ORel ρ x o u

variable {base w : World} {ρ : Rho} {S : AS}

theorem WRel.drew (h : WRel base ρ S w) : WRel base ρ S w.drew :=
  { low := h.low, size := h.size, os := h.os, output := h.output, tape := h.tape, dom := h.dom, rng := h.rng, inj := h.inj, obj := h.obj }

/-- A new block. -/
def Rho.add (ρ : Rho) (b : Nat) (r : Nat × Nat) : Rho := fun c => if c = b then some r else ρ c
theorem Rho.le_add {ρ : Rho} {b : Nat} {r : Nat × Nat} (h : ρ b = none) : ρ.le (ρ.add b r) := fun c u e => by
  unfold Rho.add
  by_cases hc : c = b
  · subst hc; rw [h] at e; cases e
  · rw [if_neg hc]; exact e
theorem Rho.add_same (ρ : Rho) (b : Nat) (r : Nat × Nat) : ρ.add b r b = some r := if_pos rfl

theorem WRel.alloc (h : WRel base ρ S w) (o : AObj) (u : Obj) (x : Nat) (hu : ORel (ρ.add S.next (w.heap.size, x)) x o u) :
    WRel base (ρ.add S.next (w.heap.size, x)) { heap := S.heap.setK (some o) S.next, next := Nat.succ S.next } (w.alloc u) := by
  have hle : ρ.le (ρ.add S.next (w.heap.size, x)) := Rho.le_add (h.dom _ (Nat.le_refl _))
  have hs : (w.alloc u).heap.size = w.heap.size + 1 := by show (w.heap.push u).size = _; simp
  have hold : ∀ r, r < w.heap.size → (w.alloc u).heap[r]? = w.heap[r]? := fun r hr => by show (w.heap.push u)[r]? = _; rw [Array.getElem?_push, if_neg (by omega)]
  refine { low := fun r hr => by rw [hold r (by have := h.size; omega)]; exact h.low r hr, size := by rw [hs]; have := h.size; omega, os := h.os, output := h.output, tape := h.tape, dom := fun b hb => ?_, rng := fun b r y e => ?_, inj := fun b c r y z hb hc eb ec => ?_, obj := fun b o' r y hb e => ?_ }
  · have hb : S.next + 1 ≤ b := hb
    unfold Rho.add
    rw [if_neg (by omega)]
    exact h.dom b (by omega)
  · rw [hs]
    unfold Rho.add at e
    by_cases hc : b = S.next
    · rw [if_pos hc] at e; cases e; have := h.size; omega
    · rw [if_neg hc] at e; have := h.rng _ _ _ e; omega
  · obtain ⟨ob, hb⟩ := hb
    obtain ⟨oc, hc⟩ := hc
    unfold Rho.add at eb ec
    by_cases h1 : b = S.next <;> by_cases h2 : c = S.next
    · omega
    · rw [if_pos h1] at eb; rw [if_neg h2] at ec; cases eb; have := (h.rng _ _ _ ec).2; omega
    · rw [if_neg h1] at eb; rw [if_pos h2] at ec; cases ec; have := (h.rng _ _ _ eb).2; omega
    · rw [if_neg h1] at eb; rw [if_neg h2] at ec
      have g1 : S.live b := by rcases HT.getK_setK _ _ _ hb with ⟨e, _⟩ | ⟨_, g⟩; exact absurd e h1; exact ⟨_, g⟩
      have g2 : S.live c := by rcases HT.getK_setK _ _ _ hc with ⟨e, _⟩ | ⟨_, g⟩; exact absurd e h2; exact ⟨_, g⟩
      exact h.inj b c r y z g1 g2 eb ec
  · rcases HT.getK_setK _ _ _ hb with ⟨rfl, e2⟩ | ⟨hne, g⟩
    · cases e2
      rw [Rho.add_same] at e
      cases e
      exact ⟨u, by show (w.heap.push u)[w.heap.size]? = _; simp, hu⟩
    · unfold Rho.add at e
      rw [if_neg hne] at e
      obtain ⟨v, hv, hr⟩ := h.obj b o' r y g e
      exact ⟨v, by rw [hold r (h.rng _ _ _ e).2]; exact hv, hr.mono hle⟩

/-- An object in its place. -/
def _root_.Go.World.putObj (w : World) (r : Nat) (u : Obj) : World := { w with heap := w.heap.setIfInBounds r u }

theorem WRel.put (h : WRel base ρ S w) {b r x : Nat} {o : AObj} {u : Obj} (hb : S.live b) (e : ρ b = some (r, x)) (hu : ORel ρ x o u) : WRel base ρ (putK S b o) (w.putObj r u) := by
  have hs : (w.putObj r u).heap.size = w.heap.size := by show (w.heap.setIfInBounds r u).size = _; simp
  have hr := h.rng _ _ _ e
  have hne : ∀ q, q ≠ r → (w.putObj r u).heap[q]? = w.heap[q]? := fun q hq => by show (w.heap.setIfInBounds r u)[q]? = _; rw [Array.getElem?_setIfInBounds_ne (by omega)]
  have hlive : ∀ c, (putK S b o).live c → S.live c := fun c hc => by
    obtain ⟨oc, hc⟩ := hc
    rcases HT.getK_setK _ _ _ hc with ⟨e, _⟩ | ⟨_, g⟩
    · rw [e]; exact hb
    · exact ⟨_, g⟩
  refine { low := fun q hq => by rw [hne q (by omega)]; exact h.low q hq, size := by rw [hs]; exact h.size, os := h.os, output := h.output, tape := h.tape, dom := h.dom, rng := fun c q y ec => by rw [hs]; exact h.rng c q y ec, inj := fun c d q y z hc hd => h.inj c d q y z (hlive c hc) (hlive d hd), obj := fun c o' q y hc ec => ?_ }
  rcases HT.getK_setK _ _ _ hc with ⟨rfl, e2⟩ | ⟨hcb, g⟩
  · cases e2
    rw [e] at ec
    cases ec
    exact ⟨u, by show (w.heap.setIfInBounds r u)[r]? = _; rw [Array.getElem?_setIfInBounds_self_of_lt hr.2], hu⟩
  · obtain ⟨v, hv, hrel⟩ := h.obj c o' q y g ec
    have : q ≠ r := fun eq => by
      subst eq
      exact hcb (h.inj c b q y x ⟨_, g⟩ hb ec e)
    exact ⟨v, by rw [hne q this]; exact hv, hrel⟩

/-- Ids that stand for nothing as yet: they still do, and what lies under them is as it was. -/
def Keep (ρ ρ' : Rho) (S S' : AS) : Prop := S.next ≤ S'.next ∧ ∀ b, b < S.next → ρ b = none → ρ' b = none ∧ ∀ o, S'.heap.getK b = some o → S.heap.getK b = some o
theorem Keep.refl (ρ : Rho) (S : AS) : Keep ρ ρ S S := ⟨Nat.le_refl _, fun _ _ h => ⟨h, fun _ h => h⟩⟩
theorem Keep.trans {ρ σ τ : Rho} {S S' S'' : AS} (h : Keep ρ σ S S') (g : Keep σ τ S' S'') : Keep ρ τ S S'' :=
  ⟨Nat.le_trans h.1 g.1, fun b hb e => let ⟨e1, k1⟩ := h.2 b hb e; let ⟨e2, k2⟩ := g.2 b (Nat.lt_of_lt_of_le hb h.1) e1; ⟨e2, fun o ho => k1 o (k2 o ho)⟩⟩
theorem Keep.put {ρ : Rho} {S : AS} {b : Nat} {o : AObj} {r : Nat × Nat} (e : ρ b = some r) : Keep ρ ρ S (putK S b o) :=
  ⟨Nat.le_refl _, fun c _ ec => ⟨ec, fun o' ho => by
    rcases HT.getK_setK _ _ _ ho with ⟨h1, _⟩ | ⟨_, g⟩
    · subst h1; rw [e] at ec; cases ec
    · exact g⟩⟩
theorem Keep.new {ρ : Rho} {S : AS} {o : AObj} {r : Nat × Nat} : Keep ρ (ρ.add S.next r) S { heap := S.heap.setK (some o) S.next, next := Nat.succ S.next } :=
  ⟨Nat.le_succ _, fun c hc ec => ⟨by unfold Rho.add; rw [if_neg (by omega)]; exact ec, fun o' ho => by
    rcases HT.getK_setK _ _ _ ho with ⟨h1, _⟩ | ⟨_, g⟩
    · omega
    · exact g⟩⟩

theorem onCells_some {S : AS} {b : Nat} {k : TypeId → Nat → List AV → R} {z : AV × Option AS} (h : onCells S b k = some z) : ∃ e s cs, S.heap.getK b = some (.cells e s cs) ∧ k e s cs = some z := by
  obtain ⟨o, ho, h⟩ := onSome_some h
  cases o with
  | cells e s cs => exact ⟨e, s, cs, ho, h⟩
  | _ => exact absurd h (by intro h; cases h)
theorem onMapO_some {S : AS} {b : Nat} {k : List (AV × AV × Nat) → Nat → R} {z : AV × Option AS} (h : onMapO S b k = some z) : ∃ es c, S.heap.getK b = some (.map es c) ∧ k es c = some z := by
  obtain ⟨o, ho, h⟩ := onSome_some h
  cases o with
  | map es c => exact ⟨es, c, ho, h⟩
  | _ => exact absurd h (by intro h; cases h)
theorem onLoop_some {S : AS} {b : Nat} {k : KLp} {z : AV × Option AS} (h : onLoop S b k = some z) : ∃ st pe t ps asg c n, S.heap.getK b = some (.loop st pe t ps asg c n) ∧ k st pe t ps asg c n = some z := by
  obtain ⟨o, ho, h⟩ := onSome_some h
  cases o with
  | loop st pe t ps asg c n => exact ⟨st, pe, t, ps, asg, c, n, ho, h⟩
  | _ => exact absurd h (by intro h; cases h)
theorem onDfr_some {S : AS} {b : Nat} {k : Bool → R} {z : AV × Option AS} (h : onDfr S b k = some z) : ∃ l, S.heap.getK b = some (.dfr l) ∧ k l = some z := by
  obtain ⟨o, ho, h⟩ := onSome_some h
  cases o with
  | dfr l => exact ⟨l, ho, h⟩
  | _ => exact absurd h (by intro h; cases h)
theorem newK_some {S : AS} {o : AObj} {k : Nat → AS → R} {z : AV × Option AS} (h : newK S o k = some z) : k S.next { heap := S.heap.setK (some o) S.next, next := Nat.succ S.next } = some z := by
  unfold newK at h
  rwa [forceN_eq] at h

/-- Cells of a row, read and written. -/
theorem WRel.cells (h : WRel base ρ S w) {b r x : Nat} {e : TypeId} {z : Nat} {cs : List AV} (hb : S.heap.getK b = some (.cells e z cs)) (er : ρ b = some (r, x)) :
    ∃ us tail fz, w.heap[r]? = some (.cells (us ++ tail).toArray e fz) ∧ Cells ρ cs us ∧ tail.length = x * z ∧ FzOk fz (us.length + tail.length) := by
  obtain ⟨u, hu, ho⟩ := h.obj b _ r x hb er
  cases ho with
  | cells a b c => exact ⟨_, _, _, hu, a, b, c⟩

theorem rangeAt_of {w : World} {r : Nat} {l : List Value} {e : TypeId} {fz : Nat × Nat} (h : w.heap[r]? = some (.cells l.toArray e fz)) (o n : Nat) : w.rangeAt r o ((l.drop o).take n) := fun j v hv => by
  unfold World.cell?
  simp only [h, Option.isSome_none, Bool.false_eq_true, if_false]
  rw [List.getElem?_take] at hv
  split at hv
  · rw [List.getElem?_drop] at hv; simpa using hv
  · cases hv
theorem there_of {w : World} {r : Nat} {l : List Value} {e : TypeId} {fz : Nat × Nat} (h : w.heap[r]? = some (.cells l.toArray e fz)) (hf : ∀ o, o < l.length → ¬ (fz.1 ≤ o ∧ o < fz.2)) (o n : Nat) (hn : o + n ≤ l.length) : w.there r o n := fun j hj => by
  refine ⟨?_, ?_⟩
  · unfold World.cell?
    simp only [h, Option.isSome_none, Bool.false_eq_true, if_false]
    have : o + j < l.length := by omega
    simp [this]
  · unfold World.frozen?
    simp only [h]
    have := hf (o + j) (by omega)
    simpa using this

theorem setCells_heap (r : Nat) (e : TypeId) (fz : Nat × Nat) : ∀ (vs : List Value) (o : Nat) (w : World) (l : List Value), w.heap[r]? = some (.cells l.toArray e fz) → o + vs.length ≤ l.length →
    w.setCells r o vs = w.putObj r (.cells (l.take o ++ vs ++ l.drop (o + vs.length)).toArray e fz)
  | [], o, w, l, h, _ => by
    have : l.take o ++ [] ++ l.drop (o + 0) = l := by simp
    show w = { w with heap := w.heap.setIfInBounds r (.cells (l.take o ++ [] ++ l.drop (o + 0)).toArray e fz) }
    rw [this]
    have : w.heap.setIfInBounds r (.cells l.toArray e fz) = w.heap := by
      apply Array.ext_getElem?
      intro i
      by_cases hi : i = r
      · subst hi
        have hlt : i < w.heap.size := by
          rcases Nat.lt_or_ge i w.heap.size with h' | h'
          · exact h'
          · rw [Array.getElem?_eq_none h'] at h; cases h
        rw [Array.getElem?_setIfInBounds_self_of_lt hlt, h]
      · rw [Array.getElem?_setIfInBounds_ne (by omega)]
    rw [this]
  | v :: vs, o, w, l, h, hn => by
    have hn' : o + vs.length + 1 ≤ l.length := by simp at hn; omega
    have hlt : r < w.heap.size := by
      rcases Nat.lt_or_ge r w.heap.size with h' | h'
      · exact h'
      · rw [Array.getElem?_eq_none h'] at h; cases h
    have e1 : w.setCell ⟨r, o, none⟩ v = w.putObj r (.cells (l.set o v).toArray e fz) := by
      unfold World.setCell World.putObj
      congr 1
      apply Array.ext_getElem?
      intro i
      by_cases hi : i = r
      · subst hi
        rw [Array.getElem?_setIfInBounds_self_of_lt hlt, Array.getElem?_modify, if_pos rfl, h]
        simp
      · rw [Array.getElem?_setIfInBounds_ne (fun e => hi e.symm), Array.getElem?_modify]
        split
        · rename_i e; exact absurd e.symm hi
        · rfl
    show (w.setCell ⟨r, o, none⟩ v).setCells r (o + 1) vs = _
    rw [e1]
    have h2 : (w.putObj r (.cells (l.set o v).toArray e fz)).heap[r]? = some (.cells (l.set o v).toArray e fz) := by
      show (w.heap.setIfInBounds r _)[r]? = _
      rw [Array.getElem?_setIfInBounds_self_of_lt hlt]
    rw [setCells_heap r e fz vs (o + 1) _ (l.set o v) h2 (by rw [List.length_set]; omega)]
    have e2 : (l.set o v).take (o + 1) ++ vs ++ (l.set o v).drop (o + 1 + vs.length) = l.take o ++ v :: vs ++ l.drop (o + (v :: vs).length) := by
      rw [List.drop_set_of_lt (by omega), take_set_drop l o v (by omega)]
      rw [List.take_append_of_le_length (by simp; omega), List.take_of_length_le (by simp; omega)]
      simp [Nat.add_comm, Nat.add_left_comm]
    rw [e2]
    unfold World.putObj
    simp
end Go.Proofs.YtpochibfjpanhaaGreat.Exe
