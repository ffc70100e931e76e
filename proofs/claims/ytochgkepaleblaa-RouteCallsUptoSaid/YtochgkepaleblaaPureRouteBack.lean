/- The plain law of RouteBack: what the printed function answers is true, at every path and all names. -/
import Derived.Test.YtochgkepaleblaaRoutex2
set_option linter.unusedVariables false
namespace Go.Proofs.Ytochgkepaleblaa.PureBack
open Go.RowKit Go.Proofs.Ytochgkepaleblaa.Route Go.Proofs.Ytochgkepaleblaa.Base Go.Proofs.Ytochgkepaleblaa.Hand Go.Proofs.YtochgkepaleblaaW.PrintWords Go.Proofs.Ytochgkepaleblaa.Plain

def plainB (x : List UInt8) : Bool := decide (0 ∉ x ∧ 47 ∉ x ∧ 1 ≤ x.length ∧ x.length ≤ 14)
theorem plain_l0 (x : List UInt8) (hx : x.length ≤ 9223372036854775807) (d : Nat) : ∀ i, i + d = x.length → 0 ∉ x.take i → 47 ∉ x.take i →
    Ev (fun k => undercroftlaw20_plain.l0 k (mk x) (i : Int)) (plainB x) := by
  have hsz : (mk x).size = x.length := mk_size x
  induction d with
  | zero =>
    intro i hi h0 h47
    have e : x.take i = x := List.take_of_length_le (by omega)
    rw [e] at h0 h47
    refine Ev.step (f := fun _ => some (plainB x)) (fun k => ?_) (Ev.now _)
    simp only [undercroftlaw20_plain.l0]
    rw [if_neg (by omega), hsz]
    unfold plainB
    by_cases h1 : 1 ≤ x.length
    · rw [if_pos (by omega)]
      congr 1
      by_cases h2 : x.length ≤ 14
      · rw [decide_eq_true (by omega), decide_eq_true ⟨h0, h47, h1, h2⟩]
      · rw [decide_eq_false (by omega), decide_eq_false (fun h => h2 h.2.2.2)]
    · rw [if_neg (by omega), decide_eq_false (fun h => h1 h.2.2.1)]
  | succ d ih =>
    intro i hi h0 h47
    have hlt : i < x.length := by omega
    have hb : bt (mk x) (i : Int) = ((x[i]).toNat : Int) := bt_get (mk x) i hlt
    have hmem : x[i] ∈ x := List.getElem_mem hlt
    by_cases c0 : x[i] = 0
    · refine Ev.step (f := fun _ => some (plainB x)) (fun k => ?_) (Ev.now _)
      simp only [undercroftlaw20_plain.l0]
      rw [if_pos (by omega), if_pos (by omega), if_pos (by rw [hb, byte0]; exact c0)]
      unfold plainB
      rw [decide_eq_false (fun h => h.1 (c0 ▸ hmem))]
    by_cases c47 : x[i] = 47
    · refine Ev.step (f := fun _ => some (plainB x)) (fun k => ?_) (Ev.now _)
      simp only [undercroftlaw20_plain.l0]
      rw [if_pos (by omega), if_pos (by omega), if_neg (by rw [hb, byte0]; exact c0), if_pos (by rw [hb, byte47]; exact c47)]
      unfold plainB
      rw [decide_eq_false (fun h => h.2.1 (c47 ▸ hmem))]
    refine Ev.step (f := fun k => undercroftlaw20_plain.l0 k (mk x) ((i + 1 : Nat) : Int)) (fun k => ?_) (ih (i + 1) (by omega) ?_ ?_)
    · simp only [undercroftlaw20_plain.l0]
      rw [if_pos (by omega), if_pos (by omega), if_neg (by rw [hb, byte0]; exact c0), if_neg (by rw [hb, byte47]; exact c47), Plain.wrap_small (i := (i : Int) + 1) (by omega) (by omega)]
      rfl
    · rw [List.take_succ_eq_append_getElem hlt, List.mem_append, List.mem_singleton]
      rintro (h | h)
      · exact h0 h
      · exact c0 h.symm
    · rw [List.take_succ_eq_append_getElem hlt, List.mem_append, List.mem_singleton]
      rintro (h | h)
      · exact h47 h
      · exact c47 h.symm
theorem plain_ev (x : List UInt8) (hx : x.length ≤ 9223372036854775807) : Ev (fun k => undercroftlaw20_plain.f k (mk x)) (plainB x) :=
  plain_l0 x hx x.length 0 (by omega) (by simp) (by simp)
theorem plainB_plain {x : List UInt8} (h : plainB x = true) : Plain x ∧ x.length ≤ 14 := by
  have := of_decide_eq_true h
  refine ⟨⟨?_, this.2.1, this.1⟩, this.2.2.2⟩
  rintro rfl
  have := this.2.2.1
  simp at this
theorem plain_plainB {x : List UInt8} (h : Plain x ∧ x.length ≤ 14) : plainB x = true :=
  decide_eq_true ⟨h.1.2.2, h.1.2.1, List.length_pos_iff.2 h.1.1, h.2⟩

/-- The second half: the names, from name i on. -/
theorem names_ev (l : List (List UInt8)) (hl : l.length ≤ 300) (hb : ∀ x ∈ l, x.length ≤ 9223372036854775807) (d : Nat) : ∀ i, i + d = l.length → (∀ x ∈ l.take i, plainB x = true) →
    Ev (fun k => undercroftlaw20_RouteBack.l1 k (l.map mk) (i : Int)) true := by
  induction d with
  | zero =>
    intro i hi hp
    have e : l.take i = l := List.take_of_length_le (by omega)
    rw [e] at hp
    have hpl : ∀ x ∈ l, Plain x ∧ x.length ≤ 14 := fun x hx => plainB_plain (hp x hx)
    have hlen : (path l).length ≤ 15 * l.length + 1 := by
      unfold path
      split
      · simp
      · have := flat_len_names l (fun x hx => (hpl x hx).2)
        omega
    have hj := join_f l (by omega) (by omega)
    have hsz : (mk (path l)).size = (path l).length := mk_size _
    refine Ev.step (f := fun k => (route_Parse.f k (mk (path l))).bind fun b => if ((path l).length : Int) > 1024 then some (b.2 == 4) else (route_Parse.f k (mk (path l ++ [47]))).bind fun c => if b.2 = 0 then (undercroftkit_SameTexts.f k b.1 (l.map mk)).bind fun t => if t = true then if ((path l).length : Int) = 1024 then some true else if c.2 = 0 then (undercroftkit_SameTexts.f k c.1 (l.map mk)).bind fun t => some t else some false else some false else some false) (fun k => ?_) ?_
    · simp only [undercroftlaw20_RouteBack.l1]
      rw [if_neg (by rw [List.length_map]; omega), hj]
      simp only [Option.bind_some]
      congr 1
      funext b
      rw [hsz]
      by_cases h : ((path l).length : Int) > 1024
      · rw [if_pos h, if_pos h]
      · rw [if_neg h, if_neg h, if_pos (by omega)]
        rw [show (⟨#[47]⟩ : ByteArray) = mk [47] from rfl, mk_app]
    · by_cases h : ((path l).length : Int) > 1024
      · refine Ev.bind (parse_at (path l) (parse (path l)) (by omega) rfl) ?_
        have hf : (Plain.up (parse (path l))).2 = 4 := parse_far (by omega)
        simp only [if_pos h, hf]
        exact Ev.now _
      · have g := good_path hpl (by omega)
        refine Ev.bind (parse_at (path l) (l, 0) (by omega) (parse_good g)) ?_
        simp only [if_neg h, Plain.up, if_true]
        refine Ev.bind (parse_at (path l ++ [47]) (parse (path l ++ [47])) (by simp; omega) rfl) ?_
        refine Ev.bind (same_ev l l (by omega)) ?_
        simp only [decide_true, if_true]
        by_cases h2 : ((path l).length : Int) = 1024
        · simp only [if_pos h2]
          exact Ev.now _
        · simp only [if_neg h2]
          have g2 := parse_good (good_end g (by omega))
          rw [g2]
          simp only [Plain.up, if_true]
          refine Ev.bind (same_ev l l (by omega)) ?_
          rw [decide_eq_true rfl]
          exact Ev.now _
  | succ d ih =>
    intro i hi hp
    have hlt : i < l.length := by omega
    have hbx := hb l[i] (List.getElem_mem hlt)
    refine Ev.step (f := fun k => (undercroftlaw20_plain.f k (mk l[i])).bind fun t => if t = true then undercroftlaw20_RouteBack.l1 k (l.map mk) ((i + 1 : Nat) : Int) else some true) (fun k => ?_) ?_
    · simp only [undercroftlaw20_RouteBack.l1]
      rw [if_pos (by rw [List.length_map]; omega), if_pos (by omega), rd_map l i hlt, Plain.wrap_small (i := (i : Int) + 1) (by omega) (by omega)]
      rfl
    · refine Ev.bind (plain_ev l[i] hbx) ?_
      by_cases h : plainB l[i] = true
      · simp only [h, if_true]
        refine ih (i + 1) (by omega) ?_
        rw [List.take_succ_eq_append_getElem hlt]
        intro x hx
        rcases List.mem_append.1 hx with hx | hx
        · exact hp x hx
        · rw [List.mem_singleton.1 hx]
          exact h
      · simp only [h]
        exact Ev.now _
theorem names_j2 (l : List (List UInt8)) (hl : l.length ≤ 300) (hb : ∀ x ∈ l, x.length ≤ 9223372036854775807) : Ev (fun k => undercroftlaw20_RouteBack.j2 k (l.map mk)) true := by
  refine Ev.step (f := fun k => undercroftlaw20_RouteBack.l1 k (l.map mk) 0) (fun k => ?_) (names_ev l hl hb l.length 0 (by omega) (by simp))
  simp only [undercroftlaw20_RouteBack.j2]

theorem good_count {p : List UInt8} {l : List (List UInt8)} (h : Plain.Good p l) : l.length ≤ 1024 := by
  have h1 := good_path_len h
  have h2 := h.len
  have h3 : l.length ≤ (path l).length := by
    unfold path
    split
    · rename_i e
      rw [e]
      simp
    · clear h h1 h2
      induction l with
      | nil => simp
      | cons x l ih =>
        rw [flat_cons]
        simp only [List.length_cons, List.length_append]
        by_cases e : l = []
        · subst e
          simp
          omega
        · have := ih e
          omega
  omega
theorem back_l0 (p : List UInt8) (l n : List (List UInt8)) (g : Plain.Good p l) (hl : n.length ≤ 300) (hb : ∀ x ∈ n, x.length ≤ 9223372036854775807) (d : Nat) : ∀ i, i + d = l.length →
    Ev (fun k => undercroftlaw20_RouteBack.l0 k (mk p) (n.map mk) (l.map mk) (i : Int)) true := by
  have hc := good_count g
  have hpl := good_plain g
  have hlen := g.len
  have hsz : (mk p).size = p.length := mk_size _
  induction d with
  | zero =>
    intro i hi
    refine Ev.step (f := fun k => (route_Parse.f k (mk (47 :: p))).bind fun b => if (p.length : Int) < 1024 then if b.2 = 0 then (undercroftkit_SameTexts.f k (l.map mk) b.1).bind fun t => if t = true then undercroftlaw20_RouteBack.j2 k (n.map mk) else some false else some false else undercroftlaw20_RouteBack.j2 k (n.map mk)) (fun k => ?_) ?_
    · simp only [undercroftlaw20_RouteBack.l0]
      rw [if_neg (by rw [List.length_map]; omega), if_pos (by omega), hsz]
      rw [show (⟨#[47]⟩ : ByteArray) = mk [47] from rfl, mk_app]
      rfl
    · by_cases h : (p.length : Int) < 1024
      · refine Ev.bind (parse_at (47 :: p) (l, 0) (by simp; omega) (parse_good (good_ahead g (by omega)))) ?_
        simp only [if_pos h, Plain.up, if_true]
        refine Ev.bind (same_ev l l (by omega)) ?_
        simp only [decide_true, if_true]
        exact names_j2 n hl hb
      · refine Ev.bind (parse_at (47 :: p) (parse (47 :: p)) (by simp; omega) rfl) ?_
        simp only [if_neg h]
        exact names_j2 n hl hb
  | succ d ih =>
    intro i hi
    have hlt : i < l.length := by omega
    have hx := hpl l[i] (List.getElem_mem hlt)
    refine Ev.step (f := fun k => (undercroftlaw20_plain.f k (mk l[i])).bind fun t => if t = true then undercroftlaw20_RouteBack.l0 k (mk p) (n.map mk) (l.map mk) ((i + 1 : Nat) : Int) else some false) (fun k => ?_) ?_
    · simp only [undercroftlaw20_RouteBack.l0]
      rw [if_pos (by rw [List.length_map]; omega), if_pos (by omega), rd_map l i hlt, Plain.wrap_small (i := (i : Int) + 1) (by omega) (by omega)]
      rfl
    · refine Ev.bind (plain_ev l[i] (by have := hx.2; omega)) ?_
      simp only [plain_plainB hx, if_true]
      exact ih (i + 1) (by omega)

theorem back_ev (p : List UInt8) (n : List (List UInt8)) (hp : p.length ≤ 140737488351232) (hb : ∀ x ∈ n, x.length ≤ 9223372036854775807) :
    Ev (fun k => undercroftlaw20_RouteBack.f k (mk p) (n.map mk)) true := by
  unfold undercroftlaw20_RouteBack.f
  simp only [undercroftlaw20_lives.f, Option.bind_some, if_true]
  by_cases hl : n.length ≤ 300
  · simp only [if_neg (show ¬ (((n.map mk).length : Int) > 300) by rw [List.length_map]; omega)]
    refine Ev.bind (parse_at p (parse p) hp rfl) ?_
    by_cases h : (parse p).2 = 0
    · have g := good_parse h
      simp only [Plain.up, h, if_true]
      generalize (parse p).1 = l at g ⊢
      have hc := good_count g
      have h1 := good_path_len g
      have h2 := g.len
      have g3 := good_path (good_plain g) (by omega)
      have hj := join_f l (by omega) (by omega)
      simp only [hj, Option.bind_some]
      refine Ev.bind (parse_at (path l) (l, 0) (by omega) (parse_good g3)) ?_
      simp only [Plain.up, if_true]
      refine Ev.bind (same_ev l l (by omega)) ?_
      simp only [decide_true, Bool.not_true]
      refine Ev.step (f := fun k => undercroftlaw20_RouteBack.l0 k (mk p) (n.map mk) (l.map mk) 0) (fun k => ?_) (back_l0 p l n g hl hb l.length 0 (by omega))
      simp only [undercroftlaw20_RouteBack.j0]
      rw [if_neg (by simp)]
    · have h' : (Plain.up (parse p)).2 ≠ 0 := h
      simp only [if_neg h']
      have e : (Plain.up (parse p)).1 = [] := by
        show (parse p).1.map mk = []
        rw [parse_none h]
        rfl
      simp only [e, List.length_nil, Int.natCast_zero, if_true]
      exact names_j2 n hl hb
  · simp only [if_pos (show ((n.map mk).length : Int) > 300 by rw [List.length_map]; omega)]
    exact Ev.now _
theorem back (a : ByteArray) (l : List ByteArray) (ha : a.size ≤ 140737488351232) (hb : ∀ x ∈ l, x.size ≤ 9223372036854775807) : ∃ k, undercroftlaw20_RouteBack.f k a l = some true := by
  have h := back_ev a.data.toList (l.map (fun x => x.data.toList)) (by rw [← size_list]; exact ha) (by
    intro x hx
    rw [List.mem_map] at hx
    obtain ⟨y, hy, rfl⟩ := hx
    rw [← size_list]
    exact hb y hy)
  rw [mk_data, List.map_map] at h
  have e : l.map (mk ∘ fun x => x.data.toList) = l := by
    conv => rhs; rw [← List.map_id l]
    apply List.map_congr_left
    intro x _
    exact mk_data x
  rw [e] at h
  exact h.rounds
end Go.Proofs.Ytochgkepaleblaa.PureBack
