/- A part of the machine that reckons a closed run, and of the proof that what it says the given program does. No conditions. -/
import Derived.Test.YtpochibfjpanhaaGreatYb
set_option linter.unusedVariables false
set_option linter.unusedSimpArgs false
namespace Go.Proofs.YtpochibfjpanhaaGreat.Exe
open Go
variable {base w : World} {P : Program} {ρ : Rho} {S : AS} {t : T} {e : Operand → Value} {o : Oper} {c : K} {z : AV × Option AS}

/-! ### Rows read and written as a whole -/
theorem cells_read {r : Nat} {el : TypeId} {fz : Nat × Nat} {us tail : List Value} (hh : w.heap[r]? = some (.cells (us ++ tail).toArray el fz)) (q n : Nat) (hn : q + n ≤ us.length) :
    ∀ j v, ((us.drop q).take n)[j]? = some v → w.cell? ((⟨r, q, none⟩ : Addr).add j) = some v := fun j v hv => by
  rw [Addr.add_mid]
  have hj : j < n := by
    rcases Nat.lt_or_ge j n with h | h
    · exact h
    · rw [List.getElem?_eq_none (by simp; omega)] at hv; cases hv
  refine cell?_of hh ?_
  rw [List.getElem?_take_of_lt hj, List.getElem?_drop] at hv
  rw [List.getElem?_append_left (by omega)]
  exact hv
/-- A row written over. -/
theorem cells_write {r : Nat} {el : TypeId} {fz : Nat × Nat} {us tail : List Value} (hh : w.heap[r]? = some (.cells (us ++ tail).toArray el fz)) (hfz : FzOk fz (us.length + tail.length)) (off : Nat) (vs : List Value) (hlen : off + vs.length ≤ (us ++ tail).length) (h1 : ∀ v ∈ vs, v.oneCell' = true) :
    (storeCells ⟨r, off, none⟩ vs).run P w = .ok () (w.putObj r (.cells ((us ++ tail).take off ++ vs ++ (us ++ tail).drop (off + vs.length)).toArray el fz)) := by
  have hth := there_of hh (by rw [List.length_append]; exact hfz.free) off vs.length hlen
  have hrun := run_storeCells_cells (P := P) r off vs 0 w (fun j hj => by have := (hth j hj).1; simpa using this) (fun j hj => by have := (hth j hj).2; simpa using this) h1
  rw [hrun]
  congr 1
  exact setCells_heap r el fz vs off w (us ++ tail) hh hlen

theorem isSlK_true {v : AV} {u : Value} (h : isSlK v = true) (d : Den ρ v u) : ∃ b n cap, u = .slice b n cap ∧ ((v = .snil ∧ b = none ∧ n = 0 ∧ cap = 0) ∨ ∃ i q m k op, v = .sl i q m k op ∧ n = m) := by
  cases d <;> first | (exfalso; have h9 : (9 : Nat) = 1 := beq_true h; omega) | (exfalso; have h9 : (0 : Nat) = 1 := beq_true h; omega) | (exfalso; have h9 : (2 : Nat) = 1 := beq_true h; omega) | skip
  · exact ⟨_, _, _, rfl, .inl ⟨rfl, rfl, rfl, rfl⟩⟩
  · exact ⟨_, _, _, rfl, .inr ⟨_, _, _, _, _, rfl, rfl⟩⟩

theorem s_copy {ty el : TypeId} {d s : Operand} {d' s' : AR} {ats : Array TypeId} {n : Nat} (ho : o.op = .call { callee := .builtin .copy, args := #[d, s], argTypes := ats }) (ha : ats[0]? = some ty) (hu : P.underlying ty = some (.slice el)) (hn : (P.info? el).map (·.size) = some n)
    (hd : ofOperand d = some d') (hs : ofOperand s = some s') (he : EvRel ρ t e) (hw : WRel base ρ S w) (h : kCopy n d' s' t S c = some z) : OpPost base P ρ S e o w c z := by
  have hdd := he d d' hd
  have hds := he s s' hs
  cases hq : P.info? el with
  | none => rw [hq] at hn; cases hn
  | some ti =>
  have hsz : ti.size = n := by rw [hq] at hn; simpa using hn
  have fin : ∀ {u : Value} {w' : World}, (Builtin.copy_ ats o.type #[e d, e s]).run P w = .ok u w' → (execOp e o).run P w = .ok (.value u) w' := fun hr => by
    simp [execOp, ho, resolve, invoke, builtin, hr]
  obtain ⟨k1, h⟩ := ifB_some h
  obtain ⟨bs, ns, cs, hes, hks⟩ := isSlK_true k1 hds
  have hls : (Builtin.lenOf (e s)).run P w = .ok ns w := by rw [hes]; rfl
  have first0 : ∀ m, m = 0 → (Builtin.firstCells ti.size m (e s)).run P w = .ok #[] w := fun m hm => by
    subst hm
    rw [hes]
    cases bs with
    | none => rfl
    | some a => simp [Builtin.firstCells, loadCells, loadCellsFrom]
  rcases ifB_or h with ⟨k2, h⟩ | ⟨_, h⟩
  · have hnil := isSnil_true k2
    rw [hnil] at hdd
    generalize hed : e d = vd at hdd fin
    cases hdd
    refine (OpVal.pure h hw (.int .i64 0) (fin ?_)).post hw
    have := first0 (Nat.min ns 0) (by simp)
    simp [Builtin.copy_, ha, run_underlying hu, hls, sizeOf, typeInfo, hq, this, goInt]
    simp at this
    simp [this]
  · rcases ifB_or h with ⟨k2, h⟩ | ⟨_, h⟩
    · have hnil := isSnil_true k2
      obtain ⟨k3, h⟩ := ifB_some h
      obtain ⟨bd, nd, cd, hed, _⟩ := isSlK_true k3 hdd
      have h0 : ns = 0 := by
        rcases hks with ⟨_, _, h, _⟩ | ⟨_, _, _, _, _, h, _⟩
        · exact h
        · rw [hnil] at h; cases h
      refine (OpVal.pure h hw (.int .i64 0) (fin ?_)).post hw
      have := first0 (Nat.min ns nd) (by simp [h0])
      subst h0
      rw [hed]
      cases bd with
      | none => simp [Builtin.copy_, ha, run_underlying hu, hls, sizeOf, typeInfo, hq, goInt]; simp at this; simp [this]
      | some a => simp [Builtin.copy_, ha, run_underlying hu, hls, sizeOf, typeInfo, hq, goInt]; simp at this; simp [this, storeCells]
    · obtain ⟨b, q, nd, cd, od, hvd, h⟩ := onSl_some h
      obtain ⟨b2, q2, ns2, cs2, os2, hvs, h⟩ := onSl_some (show onSl (ev s' t) _ = some z from h)
      rw [hvd] at hdd
      rw [hvs] at hds
      generalize hed : e d = vd at hdd fin
      generalize hes2 : e s = vs at hds fin first0 hls hes
      cases hdd with
      | @sl _ _ _ _ r x _ hρ =>
      cases hds with
      | @sl _ _ _ _ r2 x2 _ hρ2 =>
      have hns : ns2 = ns := by cases hes; rfl
      subst hns
      rw [forceN_eq] at h
      have hmin : ifB (Nat.ble ns2 nd) ns2 nd = Nat.min ns2 nd := by
        cases hb : Nat.ble ns2 nd with
        | true => have := ble_true hb; show ns2 = min ns2 nd; omega
        | false => have := ble_false hb; show nd = min ns2 nd; omega
      rw [hmin] at h
      rcases ifB_or h with ⟨k3, h⟩ | ⟨k3, h⟩
      · have h0 : Nat.min ns2 nd = 0 := beq_true k3
        refine (OpVal.pure h hw (.int .i64 0) (fin ?_)).post hw
        have h9 := first0 (Nat.min ns2 nd) h0
        simp [Builtin.copy_, ha, run_underlying hu, hls, sizeOf, typeInfo, hq, goInt, Builtin.lenOf]
        simp at h9 h0
        simp [h9, storeCells, h0]
      · obtain ⟨el2, z2, cs', hb2, h⟩ := onCells_some h
        obtain ⟨l, hl, h⟩ := onSome_some h
        obtain ⟨el1, z1, ds, hb1, h⟩ := onCells_some h
        obtain ⟨ds', hds', h⟩ := onSome_some h
        obtain ⟨us2, tail2, fz2, hh2, hc2, _, _⟩ := hw.cells hb2 hρ2
        obtain ⟨us1, tail1, fz1, hh1, hc1, ht1, hf1⟩ := hw.cells hb1 hρ
        obtain ⟨hlen2, hcl⟩ := segsK_some hc2 hl
        have hlen2 : q2 + Nat.min ns2 nd * n ≤ us2.length := hlen2
        have hcl : Cells ρ l ((us2.drop q2).take (Nat.min ns2 nd * n)) := hcl
        have hnl : ((us2.drop q2).take (Nat.min ns2 nd * n)).length = Nat.min ns2 nd * n := by rw [List.length_take, List.length_drop]; omega
        obtain ⟨hlen1, hcs'⟩ := setSegsK_some hc1 hcl hnl hds'
        have hlen1 : q + Nat.min ns2 nd * n ≤ us1.length := hlen1
        have hfc := run_firstCells_some (P := P) w ti.size (Nat.min ns2 nd) ⟨r2, q2, none⟩ ns2 (if os2 = true then cs2 + x2 else cs2) ((us2.drop q2).take (Nat.min ns2 nd * n)) (by rw [hnl, hsz]) (cells_read hh2 q2 _ hlen2)
        have hst := cells_write (P := P) hh1 hf1 q ((us2.drop q2).take (Nat.min ns2 nd * n)) (by rw [hnl, List.length_append]; omega) (fun v hv => hc2.oneCell v (List.mem_of_mem_drop (List.mem_of_mem_take hv)))
        have e1 : (us1 ++ tail1).take q ++ (us2.drop q2).take (Nat.min ns2 nd * n) ++ (us1 ++ tail1).drop (q + ((us2.drop q2).take (Nat.min ns2 nd * n)).length) = (us1.take q ++ (us2.drop q2).take (Nat.min ns2 nd * n) ++ us1.drop (q + Nat.min ns2 nd * n)) ++ tail1 := by
          rw [hnl, List.take_append_of_le_length (by omega), List.drop_append_of_le_length (by omega)]
          simp
        rw [e1] at hst
        have hlen3 : (us1.take q ++ (us2.drop q2).take (Nat.min ns2 nd * n) ++ us1.drop (q + Nat.min ns2 nd * n)).length = us1.length := by
          rw [List.length_append, List.length_append, hnl, List.length_take, List.length_drop]; omega
        refine ⟨_, _, ρ, _, .int .i64 (Nat.min ns2 nd : Nat), h, ρ.le_refl, .put hρ, hw.put ⟨_, hb1⟩ hρ (.cells hcs' ht1 (by rw [hlen3]; exact hf1)), .int _ _, .inl (fin ?_)⟩
        simp [Builtin.copy_, ha, run_underlying hu, hls, sizeOf, typeInfo, hq, goInt]
        simp at hfc hst
        simp [hfc, hst]
end Go.Proofs.YtpochibfjpanhaaGreat.Exe
