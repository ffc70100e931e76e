/- A part of the machine that reckons a closed run, and of the proof that what it says the given program does. No conditions. -/
import Derived.Test.YtpochibfjpanhaaGreatYc
set_option linter.unusedVariables false
set_option linter.unusedSimpArgs false
namespace Go.Proofs.YtpochibfjpanhaaGreat.Exe
open Go
variable {base w : World} {P : Program} {ρ : Rho} {S : AS} {t : T} {e : Operand → Value} {o : Oper} {c : K} {z : AV × Option AS}

theorem run_markStringish {r off : Nat} {us : List Value} {el : TypeId} {fz : Nat × Nat} (hh : w.heap[r]? = some (.cells us.toArray el fz)) (hfz : FzOk fz us.length) :
    ∃ fz', FzOk fz' us.length ∧ (markStringish ⟨r, off, none⟩).run P w = .ok () (w.putObj r (.cells us.toArray el fz')) := by
  have hlt : r < w.heap.size := (Array.getElem?_eq_some_iff.1 hh).1
  refine ⟨if fz.1 == fz.2 then (us.length, us.length + 1) else (min fz.1 us.length, max fz.2 (us.length + 1)), ?_, ?_⟩
  · unfold FzOk
    split
    · exact .inr (Nat.le_refl _)
    · rename_i hne
      rcases hfz with h | h
      · simp [h] at hne
      · exact .inr (by show us.length ≤ min fz.1 us.length; omega)
  · obtain ⟨lo, hi⟩ := fz
    have hsh : w.shape? r = some (el, us.length) := by unfold World.shape?; simp [hh]
    have hfr : w.freeze { block := r, off := us.length } 1 = w.putObj r (.cells us.toArray el (if lo == hi then (us.length, us.length + 1) else (min lo us.length, max hi (us.length + 1)))) := by
      unfold World.freeze World.putObj
      rw [if_neg (by omega)]
      congr 1
      apply Array.ext_getElem?
      intro i
      by_cases hi' : i = r
      · subst hi'
        rw [Array.getElem?_setIfInBounds_self_of_lt hlt, Array.getElem?_modify, if_pos rfl, hh]
        rfl
      · rw [Array.getElem?_setIfInBounds_ne (fun e => hi' e.symm), Array.getElem?_modify]
        split
        · rename_i e; exact absurd e.symm hi'
        · rfl
    simp only [markStringish, shape, freeze, Sem.run_bind, Sem.run, hsh, Result.andThen_ok, hfr]

theorem s_mark {sr : TypeId} {el : TypeId} {x : Operand} {x' : AR} (ho : o.op = .convert sr sr x) (hu : P.underlying sr = some (.slice el)) (hel : P.underlying el = some (.int .u8)) (hx : ofOperand x = some x') (he : EvRel ρ t e) (hw : WRel base ρ S w) (h : kMark x' t S c = some z) : OpPost base P ρ S e o w c z := by
  obtain ⟨b, q, n, cap, op, hv, h⟩ := onSl_some h
  obtain ⟨el', es, cs, hb, h⟩ := onCells_some h
  have hdx := he x x' hx
  rw [hv] at hdx h
  generalize hex : e x = ex at hdx
  cases hdx with
  | @sl _ _ _ _ r x2 _ hρ =>
    obtain ⟨us, tail, fz, hh, hc, ht, hf⟩ := hw.cells hb hρ
    obtain ⟨fz', hf', hrun⟩ := run_markStringish (P := P) (off := q) hh (by rw [List.length_append]; exact hf)
    rw [List.length_append] at hf'
    refine ⟨_, _, ρ, _, _, h, ρ.le_refl, .put hρ, hw.put ⟨_, hb⟩ hρ (.cells hc ht hf'), .sl hρ, .inl ?_⟩
    simp [execOp, ho, hex, convert, run_underlying hu, run_underlying hel, hrun]

theorem packK_vals : ∀ (l : List UInt8), byteVals l.length (packK l) = l.map fun b => Value.int .u8 (b.toNat : Int)
  | [] => rfl
  | b :: l => by
    have e : packK (b :: l) = b.toNat + 256 * packK l := rfl
    have hb : b.toNat < 256 := b.toNat_lt
    show Value.int .u8 ((packK (b :: l) % 256 : Nat) : Int) :: byteVals l.length (packK (b :: l) / 256) = _
    rw [e, Nat.add_mul_mod_self_left, Nat.mod_eq_of_lt hb, Nat.add_mul_div_left _ _ (by omega), Nat.div_eq_of_lt hb, Nat.zero_add, packK_vals l]
    rfl

theorem WRel.drew' (h : WRel base ρ S w) : WRel base ρ S { w with drawn := w.drawn + 1 } := h.drew

theorem alloc_last (w1 : World) (u : Obj) : (w1.alloc u).heap[w1.heap.size]? = some u := by
  show (w1.heap.push u)[w1.heap.size]? = _; simp
theorem alloc_put (w1 : World) (u v : Obj) : (w1.alloc u).putObj w1.heap.size v = w1.alloc v := by
  unfold World.alloc World.putObj
  congr 1
  apply Array.ext_getElem?
  intro i
  by_cases hi : i = w1.heap.size
  · subst hi
    rw [Array.getElem?_setIfInBounds_self_of_lt (by simp)]
    simp
  · rw [Array.getElem?_setIfInBounds_ne (fun e => hi e.symm), Array.getElem?_push, Array.getElem?_push]
    simp [hi]

theorem s_toBytes {sr ds el : TypeId} {x : Operand} {x' : AR} (ho : o.op = .convert sr ds x) (hu : P.underlying sr = some .string) (hd : P.underlying ds = some (.slice el)) (hel : P.underlying el = some (.int .u8)) (hx : ofOperand x = some x')
    (h : kToBytes el x' t S c = some z) : ∃ ob vf, (∀ S c, kToBytes el x' t S c = newK S ob fun b S => c (vf b) S) ∧ ∀ ρ e w, EvRel ρ t e → OpMk P ρ e o w ob vf := by
  obtain ⟨s, hv, h⟩ := onStr_some h
  refine ⟨.cells el 1 [.bytes s.size (packK s.data.toList)], fun b => .sl b 0 s.size s.size true, fun S c => ?_, fun ρ e w he => ?_⟩
  · show onStr (ev x' t) _ = _
    rw [hv]
    rfl
  have hdx := he x x' hx
  rw [hv] at hdx
  generalize hex : e x = ex at hdx
  cases hdx
  -- the capacity that the tape says
  obtain ⟨n, hnd⟩ : ∃ n, n = (Question.appendCap s.size 0 el).cut (w.tape w.drawn (.appendCap s.size 0 el)) := ⟨_, rfl⟩
  have hn : s.size ≤ n := by rw [hnd]; exact Nat.le_add_right _ _
  let us : List Value := (s.data.map fun b => Value.int .u8 b.toNat).toList
  let tail : List Value := List.replicate (n - s.size) (.int .u8 0)
  have hul : us.length = s.size := by show ((s.data.map fun b => Value.int .u8 b.toNat).toList).length = _; simp
  have hcells : Cells ρ [.bytes s.size (packK s.data.toList)] us := by
    have h1 := packK_vals s.data.toList
    have h2 : byteVals s.size (packK s.data.toList) = us := by
      rw [show s.size = s.data.toList.length by simp]
      rw [h1]
      show _ = (s.data.map fun b => Value.int .u8 (b.toNat : Int)).toList
      rw [Array.toList_map]
    have := Cells.bytes (ρ := ρ) (l := s.size) (n := packK s.data.toList) .nil
    rwa [List.append_nil, h2] at this
  have hnew : (w.drew.alloc (.cells (us ++ tail).toArray el)).heap[w.drew.heap.size]? = some (.cells (us ++ tail).toArray el (0, 0)) := alloc_last _ _
  obtain ⟨fz', hf', hrun⟩ := run_markStringish (P := P) (off := 0) hnew (.inl rfl)
  rw [List.length_append] at hf'
  have hs : (w.drew.alloc (.cells (us ++ tail).toArray el)).putObj w.drew.heap.size (.cells (us ++ tail).toArray el fz') = w.drew.alloc (.cells (us ++ tail).toArray el fz') := alloc_put _ _ _
  rw [hs] at hrun
  refine ⟨n - s.size, .cells (us ++ tail).toArray el fz', .slice (some ⟨w.heap.size, 0, none⟩) s.size n, w.drew, .inr rfl, fun ρ' hle => .cells (hcells.mono hle) (by simp [tail]) hf', fun ρ' b hb => ?_, ?_⟩
  · have := Den.sl (ρ := ρ') (b := b) (o := 0) (len := s.size) (cap := s.size) (op := true) hb
    rw [if_pos rfl, show s.size + (n - s.size) = n by omega] at this
    exact this
  · have hforced : (Question.appendCap s.size 0 el).forced = false := rfl
    have harr : (s.data.map fun b => Value.int .u8 (b.toNat : Int)) ++ Array.replicate (n - s.size) (.int .u8 0) = (us ++ tail).toArray := by
      apply Array.toList_inj.1
      simp [us, tail]
    simp only [execOp, ho, hex, convert, Sem.run_bind, run_underlying hu, run_underlying hd, run_underlying hel, Result.andThen_ok, Conv.stringToBytes, choose, newRow, newObj]
    simp only [Sem.run, hforced, Bool.false_eq_true, if_false, Result.andThen_ok]
    rw [← hnd, harr]
    have hrun' : (markStringish ⟨w.heap.size, 0, none⟩).run P { heap := w.heap.push (.cells (us ++ tail).toArray el), tape := w.tape, drawn := w.drawn + 1, os := w.os, output := w.output } = _ := hrun
    simp only [Sem.run_pure, Result.andThen_ok, hrun']

/-! ### Bytes to a string -/
theorem vals_unpack : ∀ (l n : Nat), byteVals l n = (unpackK l n).map fun b => Value.int .u8 (b.toNat : Int)
  | 0, _ => rfl
  | l + 1, n => by
    show Value.int .u8 ((n % 256 : Nat) : Int) :: byteVals l (n / 256) = Value.int .u8 (((UInt8.ofNat (n % 256)).toNat : Nat) : Int) :: (unpackK l (n / 256)).map _
    rw [vals_unpack l]
    congr 2
    simp
theorem run_pushes (g : Value → ByteArray → Sem (ForInStep ByteArray)) (hg : ∀ (b : UInt8) (s : ByteArray), g (.int .u8 (b.toNat : Int)) s = pure (.yield (s.push b))) : ∀ (bs : List UInt8) (acc : ByteArray) (w : World),
    (forIn (bs.map fun b => Value.int .u8 (b.toNat : Int)) acc g).run P w = .ok ⟨⟨acc.data.toList ++ bs⟩⟩ w
  | [], acc, w => by
    simp
  | b :: bs, acc, w => by
    rw [List.map_cons, List.forIn_cons, hg]
    simp only [Sem.run_bind, Sem.run_pure, Result.andThen_ok]
    rw [run_pushes g hg bs]
    simp
theorem runStr_some {cs : List AV} {k : ByteArray → R} (h : runStr cs k = some z) : (cs = [] ∧ k ⟨#[]⟩ = some z) ∨ ∃ l m, cs = [.bytes l m] ∧ k ⟨⟨unpackK l m⟩⟩ = some z := by
  cases cs with
  | nil => exact .inl ⟨rfl, h⟩
  | cons x r =>
    cases r with
    | cons _ _ => cases h
    | nil =>
      obtain ⟨l, m, rfl, h9⟩ := onBytes_some (show onBytes x (fun l m => unpackC l m fun s => k ⟨⟨s⟩⟩) = some z from h)
      rw [unpackC_eq] at h9
      exact .inr ⟨l, m, rfl, h9⟩
theorem s_toStr {sr ds el : TypeId} {x : Operand} {x' : AR} (ho : o.op = .convert sr ds x) (hu : P.underlying sr = some (.slice el)) (hd : P.underlying ds = some .string) (hel : P.underlying el = some (.int .u8)) (hx : ofOperand x = some x') (he : EvRel ρ t e) (hw : WRel base ρ S w)
    (h : kToStr x' t S c = some z) : OpVal P ρ S e o w c z := by
  have hdx := he x x' hx
  rcases ifB_or h with ⟨hs, h⟩ | ⟨_, h⟩
  · have hs := isSnil_true hs
    rw [hs] at hdx
    generalize hex : e x = ex at hdx
    cases hdx
    refine .pure h hw (.str _) ?_
    simp only [execOp, ho, hex, convert, Sem.run_bind, run_underlying hu, run_underlying hd, run_underlying hel, Result.andThen_ok, Conv.bytesToString]
    rfl
  · obtain ⟨b, off, len, cap, op, hv, h⟩ := onSl_some h
    obtain ⟨e', z', cs, hb, h⟩ := onCells_some h
    obtain ⟨sg, hsg, h⟩ := onSome_some h
    rw [hv] at hdx
    generalize hex : e x = ex at hdx
    cases hdx with
    | @sl _ _ _ _ r q _ hρ =>
      obtain ⟨us, tail, fz, hh, hc, _, _⟩ := hw.cells hb hρ
      obtain ⟨hlen, hcs⟩ := segsK_some hc hsg
      have hr := rangeAt_of hh off len
      have e1 : ((us ++ tail).drop off).take len = (us.drop off).take len := by
        rw [List.drop_append_of_le_length (by omega), List.take_append_of_le_length (by rw [List.length_drop]; omega)]
      rw [e1] at hr
      have hl : ((us.drop off).take len).length = len := by rw [List.length_take, List.length_drop]; omega
      have hload : (loadCells ⟨r, off, none⟩ len).run P w = .ok ((us.drop off).take len).toArray w := by
        have := run_loadCells_list (P := P) (w := w) ⟨r, off, none⟩ ((us.drop off).take len) (fun j v hj => by
          have := hr j v hj
          rwa [Addr.add_mid r off j])
        rwa [hl] at this
      have key : ∀ bs : List UInt8, (us.drop off).take len = bs.map (fun b => Value.int .u8 (b.toNat : Int)) → (execOp e o).run P w = .ok (.value (.string ⟨⟨bs⟩⟩)) w := fun bs hbs => by
        simp only [execOp, ho, hex, convert, Sem.run_bind, run_underlying hu, run_underlying hd, run_underlying hel, Result.andThen_ok, Conv.bytesToString, hload]
        rw [← Array.forIn_toList]
        simp only [List.toList_toArray]
        rw [hbs, run_pushes (P := P) _ (fun b s => ?hg) bs ByteArray.empty w]
        · rfl
        · show pure (ForInStep.yield (s.push (UInt8.ofNat (b.toNat : Int).toNat))) = _
          simp
      rcases runStr_some h with ⟨rfl, h9⟩ | ⟨l, m, rfl, h9⟩
      · have h0 : (us.drop off).take len = [] := by
          generalize (us.drop off).take len = l at hcs
          cases hcs; rfl
        exact .pure h9 hw (.str _) (key [] (by rw [h0]; rfl))
      · have h0 : (us.drop off).take len = byteVals l m := by
          generalize (us.drop off).take len = l at hcs
          cases hcs with
          | @bytes _ _ _ us' h2 => cases h2; simp
          | one o d _ => cases o
        exact .pure h9 hw (.str _) (key _ (by rw [h0, vals_unpack]))
end Go.Proofs.YtpochibfjpanhaaGreat.Exe
