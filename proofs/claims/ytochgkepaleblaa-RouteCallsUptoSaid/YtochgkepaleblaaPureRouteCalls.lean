/- The plain law of RouteCalls: what the printed function answers is true, where the names' letters are not too many. -/
import Derived.Test.YtochgkepaleblaaPureRouteCalls0
import Derived.Test.YtochgkepaleblaaCallsx1
set_option linter.unusedVariables false
namespace Go.Proofs.Ytochgkepaleblaa.PureCalls
open Go.RowKit Go.Proofs.Ytochgkepaleblaa.Base Go.Proofs.Ytochgkepaleblaa.Calls Go.Proofs.Ytochgkepaleblaa.Hand Go.Proofs.YtochgkepaleblaaW.PrintWords Go.Proofs.Ytochgkepaleblaa.Plain

theorem apart_f (a b : List ByteArray) (ha : a.length ≤ 1000000) (hb : b.length ≤ 1000000) : undercroftkit_ApartTexts.f [a, b] = some true := by
  unfold undercroftkit_ApartTexts.f
  simp only
  rw [if_pos ⟨ha, hb⟩]
theorem parse_len (p : List UInt8) : (parse p).1.length ≤ 1024 := by
  by_cases h : (parse p).2 = 0
  · exact PureBack.good_count (good_parse h)
  · rw [parse_none h]
    simp
/-- The names, each with one letter more. -/
def more (n : List (List UInt8)) : List (List UInt8) := n.map (· ++ [120])
theorem flat_more (n : List (List UInt8)) : (flat (more n)).length = (flat n).length + n.length := by
  unfold more
  induction n with
  | nil => rfl
  | cons x n ih =>
    rw [List.map_cons, flat_cons, flat_cons]
    simp only [List.cons_append, List.length_cons, List.length_append, List.length_nil, ih]
    omega
theorem path_len (n : List (List UInt8)) : (path n).length ≤ (flat n).length + 1 := by
  unfold path
  split
  · simp
  · omega
theorem flat_mem {n : List (List UInt8)} {x : List UInt8} (h : x ∈ n) : x.length ≤ (flat n).length := by
  induction n with
  | nil => cases h
  | cons y n ih =>
    rw [flat_cons]
    simp only [List.cons_append, List.length_cons, List.length_append]
    rcases List.mem_cons.1 h with rfl | h
    · omega
    · have := ih h
      omega

theorem j2_ev (n : List (List UInt8)) (a b : List ByteArray) (hl : n.length ≤ 300) (hB : (flat n).length ≤ 100000000) (ha : a.length ≤ 1000000) (hb : b.length ≤ 1000000) :
    Ev (fun k => undercroftlaw20_RouteCalls.j2 k (n.map mk) a b (mk (path n)) (special n) true) true := by
  refine Ev.step (f := fun k => (undercroftref20_Join.f k (n.map mk)).bind fun t135 => (if (mk (path n)).toList = t135.toList then some true else some false)) (fun k => ?_) ?_
  · simp only [undercroftlaw20_RouteCalls.j2, undercroftlaw20_lives.f, Option.bind_some, if_true, refspecial_f n (by omega), beq_self_eq_true, apart_f a b ha hb]
  · refine Ev.bind (refjoin_ev n (by omega) (by omega)) ?_
    simp only [if_true]
    exact Ev.now _

theorem calls_l0 (n : List (List UInt8)) (a b : List ByteArray) (hl : n.length ≤ 300) (hB : (flat n).length ≤ 100000000) (ha : a.length ≤ 1000000) (hb : b.length ≤ 1000000) (d : Nat) :
    ∀ i, i + d = n.length → Ev (fun k => undercroftlaw20_RouteCalls.l0 k (n.map mk) a b (((more n).take i ++ n.drop i).map mk) (mk (path n)) (special n) (i : Int)) true := by
  have hml : (more n).length = n.length := by simp [more]
  induction d with
  | zero =>
    intro i hi
    have e : (more n).take i ++ n.drop i = more n := by
      rw [List.take_of_length_le (by omega), List.drop_eq_nil_iff.2 (by omega), List.append_nil]
    rw [e]
    have h1 := flat_more n
    have h2 := path_len (more n)
    have hj := join_f (more n) (by omega) (by omega)
    refine Ev.step (f := fun k => (undercroftref20_Join.f k ((more n).map mk)).bind fun t131 => (if (mk (path (more n))).toList = t131.toList then undercroftlaw20_RouteCalls.j2 k (n.map mk) a b (mk (path n)) (special n) true else undercroftlaw20_RouteCalls.j2 k (n.map mk) a b (mk (path n)) (special n) false)) (fun k => ?_) ?_
    · simp only [undercroftlaw20_RouteCalls.l0]
      rw [if_neg (by rw [List.length_map]; omega), copy_f (more n) (by omega)]
      simp only [Option.bind_some, hj, special_f (more n) (by omega), refspecial_f (more n) (by omega), beq_self_eq_true]
    · refine Ev.bind (refjoin_ev (more n) (by omega) (by omega)) ?_
      simp only [if_true]
      exact j2_ev n a b hl hB ha hb
  | succ d ih =>
    intro i hi
    have hlt : i < n.length := by omega
    have hlm : i < (more n).length := by omega
    have hx := flat_mem (List.getElem_mem hlt)
    have htl : ((more n).take i).length = i := by rw [List.length_take]; omega
    have hrd : rdOf ByteArray.empty (((more n).take i ++ n.drop i).map mk) (i : Int) = mk n[i] := by
      have hlen : i < ((more n).take i ++ n.drop i).length := by rw [List.length_append, htl, List.length_drop]; omega
      rw [rd_map _ i hlen]
      congr 1
      rw [List.getElem_append_right (by omega), List.getElem_drop]
      congr 1
      omega
    have hset : (((more n).take i ++ n.drop i).map mk).set i (mk (n[i] ++ [120])) = ((more n).take (i + 1) ++ n.drop (i + 1)).map mk := by
      rw [← List.map_set]
      congr 1
      rw [List.set_append_right _ _ (by omega), htl, Nat.sub_self, List.drop_eq_getElem_cons hlt, List.set_cons_zero, List.take_succ_eq_append_getElem hlm, List.append_assoc]
      congr 1
      show _ :: _ = _ :: _
      congr 1
      simp [more]
    refine Ev.step (f := fun k => undercroftlaw20_RouteCalls.l0 k (n.map mk) a b (((more n).take (i + 1) ++ n.drop (i + 1)).map mk) (mk (path n)) (special n) ((i + 1 : Nat) : Int)) (fun k => ?_) (ih (i + 1) (by omega))
    simp only [undercroftlaw20_RouteCalls.l0]
    rw [if_pos (by rw [List.length_map, List.length_append, htl, List.length_drop]; omega), if_pos (by omega), hrd, if_pos (by rw [mk_size]; omega), show (⟨#[120]⟩ : ByteArray) = mk [120] from rfl, mk_app,
      Int.toNat_natCast, hset, Plain.wrap_small (i := (i : Int) + 1) (by omega) (by omega)]
    rfl

theorem calls_ev (p : List UInt8) (n : List (List UInt8)) (hp : p.length ≤ 140737488351232) (hB : (flat n).length ≤ 100000000) :
    Ev (fun k => undercroftlaw20_RouteCalls.f k (mk p) (n.map mk)) true := by
  unfold undercroftlaw20_RouteCalls.f
  by_cases hl : n.length ≤ 300
  · simp only [if_neg (show ¬ (((n.map mk).length : Int) > 300) by rw [List.length_map]; omega)]
    refine Ev.bind (Plain.parse_at p (parse p) hp rfl) ?_
    refine Ev.bind (Plain.parse_at p (parse p) hp rfl) ?_
    refine Ev.bind (parse_at p hp) ?_
    refine Ev.bind (lent_ev n hl) ?_
    have hpl := path_len n
    have hj := join_f n (by omega) (by omega)
    have htk : ((lent n).map mk).take (((n.map mk).length : Int)).toNat = n.map mk := by
      rw [Int.toNat_natCast, ← List.map_take, List.length_map]
      congr 1
      unfold lent
      rw [List.take_append_of_le_length (Nat.le_refl _), List.take_length]
    simp only [htk, hj, special_f n (by omega), Option.bind_some, if_true]
    simp only [if_pos (show 0 ≤ ((n.map mk).length : Int) by omega), if_pos (show ((n.map mk).length : Int) ≤ (((lent n).map mk).length : Int) by rw [List.length_map, List.length_map, lent_length]; omega)]
    refine Ev.bind (same_ev (parse p).1 (parse p).1 (by have := parse_len p; omega)) ?_
    simp only [decide_true, if_true]
    refine Ev.bind (same_ev (parse p).1 (parse p).1 (by have := parse_len p; omega)) ?_
    simp only [decide_true, if_true]
    refine Ev.bind (kept_ev n hl) ?_
    have h1 : ((parse p).1.map mk).length ≤ 1000000 := by have := parse_len p; rw [List.length_map]; omega
    have h0 := calls_l0 n ((parse p).1.map mk) ((parse p).1.map mk) hl hB h1 h1 n.length 0 (by omega)
    simp only [List.take_zero, List.nil_append, List.drop_zero] at h0
    refine Ev.step (f := fun k => undercroftlaw20_RouteCalls.l0 k (n.map mk) ((parse p).1.map mk) ((parse p).1.map mk) (n.map mk) (mk (path n)) (special n) 0) (fun k => ?_) h0
    simp only [undercroftlaw20_RouteCalls.j0]
    rw [if_neg (by simp)]
    rfl
  · simp only [if_pos (show ((n.map mk).length : Int) > 300 by rw [List.length_map]; omega)]
    exact Ev.now _
theorem calls (a : ByteArray) (l : List ByteArray) (ha : a.size ≤ 140737488351232) (hB : (flat (l.map (fun x => x.data.toList))).length ≤ 100000000) : ∃ k, undercroftlaw20_RouteCalls.f k a l = some true := by
  have h := calls_ev a.data.toList (l.map (fun x => x.data.toList)) (by rw [← size_list]; exact ha) hB
  rw [mk_data, List.map_map] at h
  have e : l.map (mk ∘ fun x => x.data.toList) = l := by
    conv => rhs; rw [← List.map_id l]
    apply List.map_congr_left
    intro x _
    exact mk_data x
  rw [e] at h
  exact h.rounds
end Go.Proofs.Ytochgkepaleblaa.PureCalls
