/- disk.Image as our machine takes it: in one step; and that it is what the function does, whichever entry of its map comes next. No conditions. -/
import Derived.Test.YtpllompnfhpfmaaGreatDoorFx
import Derived.Test.YtpllompnfhpfmaaGreatDoorImg
set_option linter.unusedVariables false
set_option linter.unusedSimpArgs false
namespace Go.Proofs.YtpllompnfhpfmaaGreatDoor.Exe
open Go Go.Proofs
open Img (Blk encB ltB)
noncomputable def optD {A B : Type} (o : Option A) (k : A → Option B) : Option B := Option.rec (motive := fun _ => Option B) none (fun a => k a) o
theorem optD_some {A B : Type} {o : Option A} {k : A → Option B} {b : B} (h : optD o k = some b) : ∃ a, o = some a ∧ k a = some b := by
  cases o with
  | none => cases h
  | some a => exact ⟨a, rfl, h⟩
noncomputable def oneL (cs : List AV) (k : AV → Option (Nat × Nat)) : Option (Nat × Nat) := List.rec (motive := fun _ => Option (Nat × Nat)) none (fun c r _ => List.rec (motive := fun _ => Option (Nat × Nat)) (k c) (fun _ _ _ => none) r) cs
theorem oneL_some {cs : List AV} {k : AV → Option (Nat × Nat)} {b : Nat × Nat} (h : oneL cs k = some b) : ∃ c, cs = [c] ∧ k c = some b := by
  match cs, h with
  | [c], h => exact ⟨c, rfl, h⟩
noncomputable def pairE (e : AV × AV × Nat) : Option (Nat × Nat) := onInt e.1 fun k n => ifB (Nat.beq (kindNo k) 3) (onNatI n fun a => onAgg e.2.1 fun cs => oneL cs fun c => onBytes c fun l m => ifB (Nat.beq l 1024) (some (a, m)) none) none
noncomputable def insP (p : Nat × Nat) (l : List (Nat × Nat)) : Option (List (Nat × Nat)) := List.rec (motive := fun _ => Option (List (Nat × Nat))) (some [p]) (fun q r ih => ifB (Nat.blt p.1 q.1) (some (p :: q :: r)) (ifB (Nat.blt q.1 p.1) (optD ih fun l => some (q :: l)) none)) l
noncomputable def pairsE (es : List (AV × AV × Nat)) : Option (List (Nat × Nat)) := List.rec (motive := fun _ => Option (List (Nat × Nat))) (some []) (fun e _ ih => optD (pairE e) fun p => optD ih fun l => insP p l) es
noncomputable def newB (b : Nat) (es : List (AV × AV × Nat)) : Bool := List.rec (motive := fun _ => Bool) true (fun e _ ih => ifB (Nat.beq e.2.2 b) false ih) es
noncomputable def bornsB (clock : Nat) (es : List (AV × AV × Nat)) : Bool := List.rec (motive := fun _ => Bool) true (fun e r ih => ifB (Nat.blt e.2.2 clock) (ifB (newB e.2.2 r) ih false) false) es
noncomputable def rowP (l : List (Nat × Nat)) : List AV := List.rec (motive := fun _ => List AV) [] (fun p _ ih => .int .i64 (.ofNat p.1) :: .bytes 1024 p.2 :: ih) l
noncomputable def head2 (cs : List AV) (k : AV → AV → R) : R := List.rec (motive := fun _ => R) none (fun a r _ => List.rec (motive := fun _ => R) none (fun b _ _ => k a b) r) cs
theorem head2_some {cs : List AV} {k : AV → AV → R} {z : AV × Option AS} (h : head2 cs k = some z) : ∃ a b r, cs = a :: b :: r ∧ k a b = some z := by
  match cs, h with
  | a :: b :: r, h => exact ⟨a, b, r, rfl, h⟩
noncomputable def emptyL {A : Type} (l : List A) (a b : R) : R := List.rec (motive := fun _ => R) a (fun _ _ _ => b) l
noncomputable def xImage : RF := fun xs S k _ => on1 xs fun v => onPtr v fun b o => ifB (Nat.beq o 0) (onCells S b fun _ _ cs => head2 cs fun c0 c1 => onInt c0 fun kd n => ifB (Nat.beq (kindNo kd) 3) (onNatI n fun n => ifB (Nat.blt 0 n) (onMap c1 fun mb => onMapO S mb fun es clock =>
  ifB (bornsB clock es) (ifB (Nat.blt es.length 1048576) (onSome (pairsE es) fun l => forceN l.length fun N =>
    emptyL l none (newK S (.cells 144 1025 (rowP l)) fun b S => k (.agg [.int .i64 (.ofNat n), .sl b 0 N N true]) S)) none) none) none) none) none
/-- A block, decoded. -/
def mkB (p : Nat × Nat) : Blk := ⟨p.1, byteVals 1024 p.2, byteVals_length _ _, byteVals_oneCell _ _⟩
theorem mkB_ext {p q : Nat × Nat} (h1 : p.1 = q.1) (h2 : byteVals 1024 p.2 = byteVals 1024 q.2) : mkB p = mkB q := by
  unfold mkB
  congr 1
open Classical in
noncomputable def decB (e : MapEntry) : Blk := if h : ∃ p : Nat × Nat, e.key = .int .i64 p.1 ∧ e.val = .agg (byteVals 1024 p.2).toArray then mkB h.choose else default
theorem decB_eq {e : MapEntry} {p : Nat × Nat} (h1 : e.key = .int .i64 p.1) (h2 : e.val = .agg (byteVals 1024 p.2).toArray) : decB e = mkB p := by
  have h : ∃ p : Nat × Nat, e.key = .int .i64 p.1 ∧ e.val = .agg (byteVals 1024 p.2).toArray := ⟨p, h1, h2⟩
  unfold decB
  rw [dif_pos h]
  obtain ⟨g1, g2⟩ := h.choose_spec
  generalize h.choose = q at g1 g2 ⊢
  refine mkB_ext ?_ ?_
  · have g1 := h1.symm.trans g1
    injection g1 with _ g1
    omega
  · have g2 := h2.symm.trans g2
    injection g2 with g2
    have := congrArg Array.toList g2
    exact this.symm
theorem pairE_some {ρ : Rho} {e : AV × AV × Nat} {m : MapEntry} {p : Nat × Nat} (h : pairE e = some p) (d1 : Den ρ e.1 m.key) (d2 : Den ρ e.2.1 m.val) : m.key = .int .i64 p.1 ∧ m.val = .agg (byteVals 1024 p.2).toArray := by
  obtain ⟨k, n, h1, h⟩ := onInt_some h
  obtain ⟨h2, h⟩ := ifB_some h
  obtain ⟨a, rfl, h⟩ := onNatI_some h
  obtain ⟨cs, h3, h⟩ := onAgg_some h
  obtain ⟨c, rfl, h⟩ := oneL_some h
  obtain ⟨l, n, rfl, h⟩ := onBytes_some h
  obtain ⟨h4, h⟩ := ifB_some h
  cases h
  have h4 : l = 1024 := beq_true h4
  subst h4
  have hk : k = .i64 := by cases k <;> first | rfl | exact Bool.noConfusion (show false = true from h2)
  subst hk
  rw [h1] at d1
  rw [h3] at d2
  constructor
  · generalize m.key = u at d1
    cases d1
    rfl
  · generalize m.val = u at d2
    cases d2 with
    | agg c =>
      cases c with
      | bytes c =>
        cases c
        rw [List.append_nil]
      | one o _ _ => exact Bool.noConfusion (show false = true from o)
theorem insP_some {p : Nat × Nat} : ∀ {l l' : List (Nat × Nat)}, insP p l = some l' → l.Pairwise (fun a b => a.1 < b.1) → l'.Pairwise (fun a b => a.1 < b.1) ∧ l'.Perm (p :: l)
  | [], l', h, _ => by cases h; exact ⟨List.pairwise_singleton _ _, .refl _⟩
  | q :: r, l', h, hp => by
    have hp' := List.pairwise_cons.1 hp
    rcases ifB_or (show ifB (Nat.blt p.1 q.1) (some (p :: q :: r)) (ifB (Nat.blt q.1 p.1) (optD (insP p r) fun l => some (q :: l)) none) = some l' from h) with ⟨h1, h⟩ | ⟨_, h⟩
    · cases h
      have h1 := blt_iff.1 h1
      refine ⟨List.pairwise_cons.2 ⟨fun x hx => ?_, hp⟩, .refl _⟩
      rcases List.mem_cons.1 hx with rfl | hx
      · exact h1
      · exact Nat.lt_trans h1 (hp'.1 x hx)
    · obtain ⟨h1, h⟩ := ifB_some h
      have h1 := blt_iff.1 h1
      obtain ⟨l2, h2, h3⟩ := optD_some h
      cases h3
      obtain ⟨g1, g2⟩ := insP_some h2 hp'.2
      refine ⟨List.pairwise_cons.2 ⟨fun x hx => ?_, g1⟩, (g2.cons q).trans (.swap _ _ _)⟩
      rcases List.mem_cons.1 (g2.mem_iff.1 hx) with rfl | hx
      · exact h1
      · exact hp'.1 x hx
theorem pairsE_some {ρ : Rho} : ∀ {es : List (AV × AV × Nat)} {ms : List MapEntry} {l : List (Nat × Nat)}, Ents ρ es ms → pairsE es = some l → l.Pairwise (fun a b => a.1 < b.1) ∧ (l.map mkB).Perm (ms.map decB)
  | [], ms, l, he, h => by
    cases he
    cases h
    exact ⟨.nil, .refl _⟩
  | e :: es, ms, l, he, h => by
    cases he with
    | @cons _ _ _ _ m ms d1 d2 _ he =>
      obtain ⟨p, h1, h⟩ := optD_some (show optD (pairE _) _ = some l from h)
      obtain ⟨l0, h2, h3⟩ := optD_some h
      obtain ⟨g1, g2⟩ := pairsE_some he h2
      obtain ⟨f1, f2⟩ := insP_some h3 g1
      obtain ⟨k1, k2⟩ := pairE_some h1 d1 d2
      refine ⟨f1, (f2.map mkB).trans ?_⟩
      rw [List.map_cons, List.map_cons, decB_eq k1 k2]
      exact g2.cons _
theorem pairsE_each {ρ : Rho} : ∀ {es : List (AV × AV × Nat)} {ms : List MapEntry} {l : List (Nat × Nat)}, Ents ρ es ms → pairsE es = some l → ∀ m ∈ ms, m.key = .int .i64 (decB m).at_ ∧ m.val = .agg (decB m).data.toArray
  | [], ms, l, he, h => by
    cases he
    intro m hm
    cases hm
  | e :: es, ms, l, he, h => by
    cases he with
    | @cons _ _ _ _ m ms d1 d2 _ he =>
      obtain ⟨p, h1, h⟩ := optD_some (show optD (pairE _) _ = some l from h)
      obtain ⟨l0, h2, h3⟩ := optD_some h
      obtain ⟨k1, k2⟩ := pairE_some h1 d1 d2
      intro m' hm
      rcases List.mem_cons.1 hm with rfl | hm
      · rw [decB_eq k1 k2]
        exact ⟨k1, k2⟩
      · exact pairsE_each he h2 m' hm
theorem newB_some {b : Nat} : ∀ {es : List (AV × AV × Nat)}, newB b es = true → ∀ e ∈ es, e.2.2 ≠ b
  | [], _, _, hm => by cases hm
  | x :: es, h, e, hm => by
    rcases ifB_or' (show ifB (Nat.beq x.2.2 b) false (newB b es) = true from h) with ⟨h1, h2⟩
    rcases List.mem_cons.1 hm with rfl | hm
    · exact fun e1 => by rw [e1, Nat.beq_refl] at h1; cases h1
    · exact newB_some h2 e hm
where
  ifB_or' {c : Bool} {x : Bool} (h : ifB c false x = true) : c = false ∧ x = true := by
    cases c with
    | true => cases h
    | false => exact ⟨rfl, h⟩
theorem bornsB_some {ρ : Rho} {clock : Nat} : ∀ {es : List (AV × AV × Nat)} {ms : List MapEntry}, Ents ρ es ms → bornsB clock es = true → (∀ m ∈ ms, m.born < clock) ∧ (ms.map (·.born)).Nodup
  | [], ms, he, _ => by
    cases he
    exact ⟨fun _ h => (by cases h), List.nodup_nil⟩
  | e :: es, ms, he, h => by
    cases he with
    | @cons _ _ _ _ m ms d1 d2 d3 he =>
      obtain ⟨h1, h⟩ := ifB_bool (show ifB (Nat.blt _ clock) (ifB (newB _ es) (bornsB clock es) false) false = true from h)
      obtain ⟨h2, h3⟩ := ifB_bool h
      obtain ⟨g1, g2⟩ := bornsB_some he h3
      have h1 := blt_iff.1 h1
      refine ⟨fun m' hm => ?_, ?_⟩
      · rcases List.mem_cons.1 hm with rfl | hm
        · rw [d3]; exact h1
        · exact g1 m' hm
      · rw [List.map_cons, List.nodup_cons]
        refine ⟨fun hc => ?_, g2⟩
        obtain ⟨m', hm', e1⟩ := List.mem_map.1 hc
        obtain ⟨x, hx, _, _, hb⟩ := he.of_mem m' hm'
        exact newB_some h2 x hx (by rw [← hb, e1, d3])
theorem rowP_cells (ρ : Rho) : ∀ (l : List (Nat × Nat)), Cells ρ (rowP l) ((l.map mkB).flatMap encB)
  | [] => .nil
  | p :: l => by
    show Cells ρ (.int .i64 (.ofNat p.1) :: .bytes 1024 p.2 :: rowP l) (.int .i64 (p.1 : Int) :: (byteVals 1024 p.2 ++ (l.map mkB).flatMap encB))
    exact .one rfl (.int _ _) (.bytes (rowP_cells ρ l))
theorem put_same {w : World} {r : Nat} {u : Obj} (h : w.heap[r]? = some u) : w.putObj r u = w := by
  unfold World.putObj
  have : w.heap.setIfInBounds r u = w.heap := by
    refine Array.ext_getElem? fun k => ?_
    rw [Array.getElem?_setIfInBounds]
    split
    · rename_i e
      subst e
      split
      · exact h.symm
      · rename_i hk
        rw [Array.getElem?_eq_none (by omega)]
    · rfl
  rw [this]
theorem same_key {p q : Nat × Nat} : ∀ {l : List (Nat × Nat)}, l.Pairwise (fun a b => a.1 < b.1) → p ∈ l → q ∈ l → p.1 = q.1 → p = q
  | [], _, h, _, _ => by cases h
  | x :: l, hl, hp, hq, e => by
    obtain ⟨g1, g2⟩ := List.pairwise_cons.1 hl
    rcases List.mem_cons.1 hp with h1 | h1 <;> rcases List.mem_cons.1 hq with h2 | h2
    · rw [h1, h2]
    · have := g1 _ h2
      rw [← h1] at this
      omega
    · have := g1 _ h1
      rw [← h2] at this
      omega
    · exact same_key g2 h1 h2 e
theorem sorted_one {L : Array Blk} {l : List (Nat × Nat)} (hl : l.Pairwise (fun a b => a.1 < b.1)) (hp : L.toList.Perm (l.map mkB)) (hs : ∀ i j, i < j → j < L.size → ltB L[j]! L[i]! = false) : L.toList = l.map mkB := by
  refine List.Perm.eq_of_pairwise (le := fun a b => a.at_ ≤ b.at_) (fun a b ha hb h1 h2 => ?_) ?_ ?_ hp
  · obtain ⟨p, hp1, rfl⟩ := List.mem_map.1 (hp.mem_iff.1 ha)
    obtain ⟨q, hq1, rfl⟩ := List.mem_map.1 hb
    have e : p.1 = q.1 := Nat.le_antisymm h1 h2
    have : p = q := same_key hl hp1 hq1 e
    rw [this]
  · rw [List.pairwise_iff_getElem]
    intro i j hi hj hij
    have := hs i j hij (by simpa using hj)
    have h1 : L[j]! = L.toList[j] := by rw [getElem!_pos L j (by simpa using hj)]; simp
    have h2 : L[i]! = L.toList[i] := by rw [getElem!_pos L i (by simpa using hi)]; simp
    rw [h1, h2] at this
    unfold ltB at this
    rw [decide_eq_false_iff_not] at this
    omega
  · rw [List.pairwise_map]
    exact hl.imp fun h => Nat.le_of_lt h
theorem xImage_ok : RfOK lg Tryz.prog 67 xImage := by
  intro base ρ S w xs us k miss z R hw hx h hR
  obtain ⟨v, rfl, h⟩ := on1_some h
  obtain ⟨b, o, rfl, h⟩ := onPtr_some h
  obtain ⟨ho, h⟩ := ifB_some h
  have ho : o = 0 := beq_true ho
  subst ho
  obtain ⟨et, ez, cs, hb, h⟩ := onCells_some h
  obtain ⟨c0, c1, cr, rfl, h⟩ := head2_some h
  obtain ⟨kd, n, rfl, h⟩ := onInt_some h
  obtain ⟨hk, h⟩ := ifB_some h
  have hk : kd = .i64 := by cases kd <;> first | rfl | exact Bool.noConfusion (show false = true from hk)
  subst hk
  obtain ⟨n, rfl, h⟩ := onNatI_some h
  obtain ⟨hn, h⟩ := ifB_some h
  have hn := blt_iff.1 hn
  obtain ⟨mb, rfl, h⟩ := onMap_some h
  obtain ⟨es, clock, hmb, h⟩ := onMapO_some h
  obtain ⟨hbo, h⟩ := ifB_some h
  obtain ⟨hle, h⟩ := ifB_some h
  have hle := blt_iff.1 hle
  obtain ⟨l, hl, h⟩ := onSome_some h
  rw [forceN_eq] at h
  cases hx with
  | cons d dn =>
    cases dn
    cases d with
    | @ptr _ _ r x hρ =>
      obtain ⟨us', tail, fz, hr, hC, _, _⟩ := hw.cells hb hρ
      cases hC with
      | one _ d0 hC =>
        cases hC with
        | one _ d1 hC =>
          cases d0
          cases d1 with
          | @map _ rm xm hρm =>
            obtain ⟨ms, hms, hE⟩ := hw.map hmb hρm
            obtain ⟨q1, q2⟩ := bornsB_some hE hbo
            obtain ⟨q3, q4⟩ := pairsE_some hE hl
            have q5 := pairsE_each hE hl
            have hc0 : w.cell? ⟨r, 0, none⟩ = some (.int .i64 (n : Int)) := by simp [World.cell?, hr]
            have hc1 : w.cell? ⟨r, 1, none⟩ = some (.map (some rm)) := by simp [World.cell?, hr]
            have hI := Img.image w r rm clock (n : Int) (by omega) ms.toArray hc0 hc1 hms (fun x hx => q1 x (by simpa using hx)) (by simpa using q2) decB (fun e he => q5 e (by simpa using he)) (by rw [List.size_toArray, ← hE.length]; exact hle)
            refine .inr ⟨callsIn_wide.2 (hI.mono ?_), ?_⟩
            · rintro e w' ⟨v, rfl, bel, L, hL1, hL2, hrow⟩
              have hLl : L.toList = l.map mkB := sorted_one q3 (hL1.trans (by simpa using q4.symm)) hL2
              have hsz : L.size = l.length := by
                have := congrArg List.length hLl
                simpa using this
              rw [hLl, hsz] at hrow
              have hg : Grown w w' := ⟨bel.block, bel.size, bel.os, bel.output, bel.tape⟩
              have hw' := hw.grown hg
              cases l with
              | nil => cases h
              | cons p l =>
                rcases hrow.2 with ⟨_, hz⟩ | ⟨g, cap, cur, rfl, g1, g2, g3, g4, g5, g6⟩
                · cases hz
                · have h := newK_some h
                  have hgl : g < w'.heap.size := (Array.getElem?_eq_some_iff.1 g2).1
                  have hwl := hw'.link (r := g) (x := cap - (p :: l).length) (o := .cells 144 1025 (rowP (p :: l))) (u := .cells cur 144 (0, 0)) ⟨.inl (by have := hw.size; omega), hgl⟩ (fun c y _ ec => by
                    have := (hw.rng c g y ec).2
                    omega) (by
                    have e : cur = (((p :: l).map mkB).flatMap encB ++ cur.toList.drop ((p :: l).length * 1025)).toArray := by
                      rw [← g6, List.take_append_drop, Array.toArray_toList]
                    rw [e]
                    refine .cells (rowP_cells _ _) ?_ (.inl rfl)
                    rw [List.length_drop, Nat.sub_mul]
                    simp [g5])
                  rw [put_same g2] at hwl
                  refine hR _ _ _ w' _ h (Rho.le_add (hw.dom _ (Nat.le_refl _))) .new hwl (.agg (.one rfl (.int _ _) (.one rfl ?_ .nil)))
                  have := Den.sl (ρ := ρ.add S.next (g, cap - (p :: l).length)) (b := S.next) (o := 0) (len := (p :: l).length) (cap := (p :: l).length) (op := true) (Rho.add_same _ _ _)
                  have e : (p :: l).length + (cap - (p :: l).length) = cap := by omega
                  rw [if_pos rfl, e] at this
                  exact this
            · exact ⟨Tryz.f67, Tryz.func67, by kernel_rfl⟩
end Go.Proofs.YtpllompnfhpfmaaGreatDoor.Exe
