/- A part of the machine that reckons a closed run, and of the proof that what it says the given program does. No conditions. -/
import Derived.Test.YtpochibfjpanhaaGreatYd
set_option linter.unusedVariables false
set_option linter.unusedSimpArgs false
namespace Go.Proofs.YtpochibfjpanhaaGreat.Exe
open Go
variable {base w : World} {P : Program} {ρ : Rho} {S : AS} {t : T} {e : Operand → Value} {o : Oper} {c : K} {z : AV × Option AS}

theorem s_clear {ty : TypeId} {d : TypeDesc} {x : Operand} {x' : AR} {ats : Array TypeId} {esz : Nat} {zs : List AV} (ho : o.op = .call { callee := .builtin .clear, args := #[x], argTypes := ats }) (ha : ats[0]? = some ty) (hu : P.underlying ty = some d)
    (hd : 0 < esz → ∃ el, d = .slice el ∧ fullZero P el = true ∧ zeroOf P el = some zs ∧ esz = sizeT P el) (hx : ofOperand x = some x') (he : EvRel ρ t e) (hw : WRel base ρ S w) (h : kClear esz zs x' t S c = some z) : OpPost base P ρ S e o w c z := by
  have hdx := he x x' hx
  have fin : ∀ {u : Value} {w' : World}, (Builtin.clear_ ats o.type #[e x]).run P w = .ok u w' → (execOp e o).run P w = .ok (.value u) w' := fun hr => by
    simp [execOp, ho, resolve, invoke, builtin, hr]
  rcases ifB_or h with ⟨_, h⟩ | ⟨_, h⟩
  · obtain ⟨b, hv, h⟩ := onMap_some h
    obtain ⟨es, k, hb, h⟩ := onMapO_some h
    rw [hv] at hdx
    generalize hex : e x = ex at hdx fin
    cases hdx with
    | @map _ r q hρ =>
      obtain ⟨ms, hm, hE⟩ := hw.map hb hρ
      refine ⟨_, _, ρ, _, _, h, ρ.le_refl, .put hρ, hw.put (u := .map #[] k) ⟨_, hb⟩ hρ (.map .nil), .tup .nil, .inl (fin ?_)⟩
      simp [Builtin.clear_, ha, run_underlying hu, run_getObj_map hm, run_setObj _ hm]
  · rcases ifB_or h with ⟨k1, h⟩ | ⟨_, h⟩
    · have hnil := isSnil_true k1
      rw [hnil] at hdx
      generalize hex : e x = ex at hdx fin
      cases hdx
      refine (OpVal.pure h hw (.tup .nil) (fin ?_)).post hw
      simp [Builtin.clear_, ha, run_underlying hu]
    · obtain ⟨b, q, n, cap, op, hv, h⟩ := onSl_some h
      rw [hv] at hdx
      generalize hex : e x = ex at hdx fin
      cases hdx with
      | @sl _ _ _ _ r x2 _ hρ =>
        rcases ifB_or h with ⟨k1, h⟩ | ⟨k1, h⟩
        · have := beq_true k1
          subst this
          refine (OpVal.pure h hw (.tup .nil) (fin ?_)).post hw
          simp [Builtin.clear_, ha, run_underlying hu]
        · have hn0 := beq_false k1
          obtain ⟨k2, h⟩ := ifB_some h
          have hpos : 0 < esz := ble_true k2
          obtain ⟨el, rfl, hfz0, hz, he2⟩ := hd hpos
          obtain ⟨i, zv, hi, hzv, hc, hs1, hs2⟩ := fullZero_some (ρ := ρ) hfz0 hz
          obtain ⟨el', es, cs, hb, h⟩ := onCells_some h
          obtain ⟨cs', hcs, h⟩ := onSome_some h
          obtain ⟨us, tail, fz, hh, hcu, ht, hf⟩ := hw.cells hb hρ
          have hzc := zerosK_cells hc (esz := esz) (by rw [Array.length_toList, hs1, he2, hs2]) n
          have hzl : ((List.replicate n zv.cells.toList).flatten).length = n * esz := by simp [hs1, he2, hs2]
          obtain ⟨h1, h2⟩ := setSegsK_some hcu hzc hzl hcs
          have h1 : q + n * esz ≤ us.length := h1
          have hst := cells_write (P := P) hh hf q ((List.replicate n zv.cells.toList).flatten) (by rw [hzl, List.length_append]; omega) (fun v hv => hzc.oneCell v hv)
          have e1 : (us ++ tail).take q ++ (List.replicate n zv.cells.toList).flatten ++ (us ++ tail).drop (q + ((List.replicate n zv.cells.toList).flatten).length) = (us.take q ++ (List.replicate n zv.cells.toList).flatten ++ us.drop (q + n * esz)) ++ tail := by
            rw [hzl, List.take_append_of_le_length (by omega), List.drop_append_of_le_length (by omega)]
            simp
          rw [e1] at hst
          have hlen3 : (us.take q ++ (List.replicate n zv.cells.toList).flatten ++ us.drop (q + n * esz)).length = us.length := by
            rw [List.length_append, List.length_append, hzl, List.length_take, List.length_drop]; omega
          refine ⟨_, _, ρ, _, _, h, ρ.le_refl, .put hρ, hw.put ⟨_, hb⟩ hρ (.cells h2 ht (by rw [hlen3]; exact hf)), .tup .nil, .inl (fin ?_)⟩
          have hzc' := zeroCells_eq zv.cells n
          simp only [Builtin.clear_, List.getElem?_toArray, List.getElem?_cons_zero, ha, Sem.run_bind, run_underlying hu, Result.andThen_ok]
          have hn1 : ∃ k, n = k + 1 := ⟨n - 1, by omega⟩
          obtain ⟨k, rfl⟩ := hn1
          simp [zeroValue, typeInfo, hi, hzv, hzc', hst]

/-! ### append -/
theorem joinK_cells {a b : List AV} {us vs : List Value} (f : Bool) (ha : Cells ρ a us) (hb : Cells ρ b vs) : Cells ρ (joinK f a b) (us ++ vs) := by
  cases f with
  | false => exact ha.append hb
  | true =>
    show Cells ρ (appK a b) (us ++ vs)
    have glue : ∀ {c : AV} {xs ys : List Value}, (xs.length = widthK c) → ((isOne c = true ∧ ∃ u, xs = [u] ∧ Den ρ c u) ∨ (∃ l n, c = .bytes l n ∧ xs = byteVals l n)) → ∀ {b : List AV}, Cells ρ b ys → Cells ρ (glueK c b) (xs ++ ys) := by
      intro c xs ys _ hx b hb
      have plain : Cells ρ (c :: b) (xs ++ ys) := by
        rcases hx with ⟨o, u, rfl, d⟩ | ⟨l, n, rfl, rfl⟩
        · exact .one o d hb
        · exact .bytes hb
      unfold glueK
      cases hg : (onBytes c fun l m => List.rec (motive := fun _ => Option (List AV)) none (fun d ds _ => onBytes d fun k n => some (.bytes (Nat.add l k) (Nat.add (Nat.mod m (Nat.pow 256 l)) (Nat.mul n (Nat.pow 256 l))) :: ds)) b) with
      | none => exact plain
      | some r =>
        obtain ⟨l, m, rfl, hg⟩ := onBytes_some hg
        cases b with
        | nil => cases hg
        | cons d ds =>
          obtain ⟨k, n, rfl, hg⟩ := onBytes_some (show onBytes d (fun k n => some (.bytes (Nat.add l k) (Nat.add (Nat.mod m (Nat.pow 256 l)) (Nat.mul n (Nat.pow 256 l))) :: ds)) = some r from hg)
          cases hg
          rcases hx with ⟨o, _⟩ | ⟨l', m', e, rfl⟩
          · exact Bool.noConfusion (show false = true from o)
          · cases e
            cases hb with
            | @bytes _ _ _ us' hb =>
              have e3 : byteVals (l + k) (m % 256 ^ l + n * 256 ^ l) = byteVals l m ++ byteVals k n := by
                rw [byteVals_add, Nat.mul_comm n, byteVals_low, byteVals_mod, Nat.add_mul_div_left _ _ (Nat.pow_pos (by omega)), Nat.div_eq_of_lt (Nat.mod_lt _ (Nat.pow_pos (by omega))), Nat.zero_add]
              have := Cells.bytes (ρ := ρ) (l := l + k) (n := m % 256 ^ l + n * 256 ^ l) hb
              rw [e3, List.append_assoc] at this
              exact this
            | one o _ _ => exact Bool.noConfusion (show false = true from o)
    induction a generalizing us with
    | nil => cases ha; exact hb
    | cons c r ih =>
      obtain ⟨xs, ys, rfl, hl, hr, hx⟩ := ha.head
      cases r with
      | nil =>
        cases hr
        rw [List.append_nil]
        exact glue hl hx hb
      | cons d r' =>
        have := ih hr
        show Cells ρ (c :: appK (d :: r') b) _
        rw [List.append_assoc]
        rcases hx with ⟨o, u, rfl, dd⟩ | ⟨l, n, rfl, rfl⟩
        · exact .one o dd this
        · exact .bytes this

theorem run_append_room' {ty tx e' el : TypeId} {i : TypeInfo} {bs : Option Addr} {sLen sCap n : Nat} {x : Value} {news : List Value} {w' : World} (ht : P.underlying ty = some (.slice el)) (hx : P.underlying tx = some (.slice e')) (hi : P.info? el = some i) (rty : TypeId) (ats : Array TypeId) (ha : ats[0]? = some ty) (ha1 : ats[1]? = some tx)
    (hl : (Builtin.lenOf x).run P w = .ok n w) (hfc : (Builtin.firstCells i.size n x).run P w = .ok news.toArray w) (hroom : sLen + n ≤ sCap)
    (hst : match bs with | some a => (storeCells (a.add (sLen * i.size)) news).run P w = .ok () w' | none => w' = w) :
    (Builtin.append_ ats rty #[.slice bs sLen sCap, x]).run P w = .ok (.slice bs (sLen + n) sCap) w' := by
  cases bs with
  | none =>
    simp only at hst
    subst hst
    simp [Builtin.append_, ha, ha1, run_underlying ht, run_underlying hx, sizeOf, typeInfo, hi, hl, hroom, hfc]
  | some a =>
    simp only at hst
    simp [Builtin.append_, ha, ha1, run_underlying ht, run_underlying hx, sizeOf, typeInfo, hi, hl, hroom, hfc, hst]

theorem run_append_grow' {ty tx e' el : TypeId} {i : TypeInfo} {zv : Value} {bs : Option Addr} {sLen sCap n : Nat} {x : Value} {olds news : List Value} (ht : P.underlying ty = some (.slice el)) (hx : P.underlying tx = some (.slice e')) (hi : P.info? el = some i) (hz : i.zero = some zv) (rty : TypeId) (ats : Array TypeId) (ha : ats[0]? = some ty) (ha1 : ats[1]? = some tx)
    (hl : (Builtin.lenOf x).run P w = .ok n w) (hfo : (Builtin.firstCells i.size sLen (.slice bs sLen sCap)).run P w.drew = .ok olds.toArray w.drew) (hfc : (Builtin.firstCells i.size n x).run P w.drew = .ok news.toArray w.drew) (hg : sCap < sLen + n)
    (h63 : sLen + n ≤ 4611686018427387904) (h48 : (sLen + n) * i.bytes ≤ 140737488355328) :
    (Builtin.append_ ats rty #[.slice bs sLen sCap, x]).run P w =
      .ok (.slice (some ⟨w.heap.size, 0, none⟩) (sLen + n) (grownCap w (sLen + n) sCap el)) (w.drew.alloc (.cells (olds ++ (news ++ (List.replicate (grownCap w (sLen + n) sCap el - (sLen + n)) zv.cells.toList).flatten)).toArray el)) := by
  have hn : ¬ (sLen + n ≤ sCap) := by omega
  have h63' : ¬ (9223372036854775807 < ((sLen : Int) + (n : Int))) := by omega
  have hfit := growslice_fits hg h48
  have h48' : ¬ (281474976710656 < Builtin.nextslicecap (sLen + n) sCap * i.bytes) := by omega
  simp [Builtin.append_, ha, ha1, run_underlying ht, run_underlying hx, sizeOf, typeInfo, zeroValue, hi, hz, hl, hn, h63', h48', Question.forced, hfo, hfc, newRow, grownCap, run_askRoom, zeroCells_eq]
end Go.Proofs.YtpochibfjpanhaaGreat.Exe
