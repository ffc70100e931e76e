/- States that came in, as the walks read them, and how much of them there is. -/
import Derived.Test.YtochgkepaleblaaRows
import Derived.Test.YtochgkepaleblaaRecPure
import Derived.OpenShut
import Derived.ChangeSame
import Derived.Deep.Strs
set_option linter.unusedVariables false
set_option linter.unusedSimpArgs false
namespace Go.Proofs.Ytochgkepaleblaa.OpenS
open Go.RowKit Go.ChangeShapes Go.WideShapes Go.Proofs.YtochgkepaleblaaW.PrintWords Go.Proofs.YtochgkepaleblaaW.PrintMore
open Go.Proofs.Ytochgkepaleblaa.Rec Go.Proofs.Ytochgkepaleblaa.Held Go.Proofs.Ytochgkepaleblaa.RecPure
open Go.Proofs.Ytochgkepaleblaa.Rows (uptoBulk uptoBulkAll)

theorem add_add (a : Addr) (i j : Nat) : (a.add i).add j = a.add (i + j) := by
  unfold Addr.add
  by_cases h1 : i = 0 <;> by_cases h2 : j = 0 <;> simp [h1, h2, Nat.add_assoc]
section
variable {H : Type} {enc : TypeId × Value → H} {W : World} {base : Nat} {spare : Nat → Bool} {held : Bool}
variable (enc W base spare held) in
/-- What is read of type t is of kind d; there is as much of it as wt says. -/
def Opens {α : Type} (t : TypeId) (d : Kd α) (wt : α → Nat) : Prop := ∀ (fuel : Nat) (cs : List Value) (x : DataW H × List MemPlace), DataW.trod enc Try.prog W base spare held fuel t cs = some x → ∃ p, d.K W p cs ∧ wt p ≤ uptoBulk x.1

theorem bulk_all (l : List (DataW H)) : uptoBulkAll l = (l.map uptoBulk).sum := by
  induction l with
  | nil => simp [uptoBulkAll]
  | cons d r ih => simp [uptoBulkAll, ih]
theorem bulk_pos (d : DataW H) : 1 ≤ uptoBulk d := by
  cases d with
  | lit l => cases l <;> simp [uptoBulk]
  | _ => simp [uptoBulk]
theorem bulk_len (l : List (DataW H)) : l.length ≤ uptoBulkAll l := by
  induction l with
  | nil => simp [uptoBulkAll]
  | cons d r ih =>
    have := bulk_pos d
    simp only [uptoBulkAll, List.length_cons]
    omega
theorem opens_slice {α : Type} {t e : TypeId} {d : Kd α} {wt : α → Nat} (z : α) (hu : Try.prog.underlying t = some (.slice e)) (hc : Try.prog.cellsOf e = d.sz) (h : Opens enc W base spare held e d wt) :
    Opens enc W base spare held t (Kd.slice e d) (fun l => (l.map wt).sum + 1) := by
  intro fuel cs x hx
  rcases DataW.trod_slice hu hx with ⟨rfl, rfl⟩ | ⟨a, len, cap, elems, rest, n, _, rfl, rfl, hb, hl, hm, hlen, hel, _, _⟩
  · exact ⟨[], ⟨none, 0, rfl, Nat.le_refl _, Kd.C_nil _ _⟩, by simp [uptoBulk]⟩
  · have each : ∀ i, ∃ p : α, i < len → ∃ cs', cs'.length = d.sz ∧ (∀ j u, cs'[j]? = some u → W.cell? (a.add (i * d.sz + j)) = some u) ∧ d.K W p cs' ∧ ∃ y, elems[i]? = some y ∧ wt p ≤ uptoBulk y.1 := by
      intro i
      by_cases hi : i < len
      · have h1 := hel i hi
        rw [List.getElem?_eq_getElem (by omega), Option.bind_eq_some_iff] at h1
        obtain ⟨cs', h2, h3⟩ := h1
        obtain ⟨p, hp, hw⟩ := h n cs' _ h3
        rw [hc] at h2
        obtain ⟨_, hcl, hcc⟩ := World.cells?_some h2
        refine ⟨p, fun _ => ⟨cs', hcl, fun j u hj => ?_, hp, _, List.getElem?_eq_getElem (by omega), hw⟩⟩
        have hjl := (List.getElem?_eq_some_iff.1 hj).1
        have := hcc j (by omega)
        rw [add_add, hj] at this
        exact this
      · exact ⟨z, fun h => absurd h hi⟩
    obtain ⟨F, hF⟩ := Classical.axiomOfChoice each
    refine ⟨(List.range len).map F, ⟨some a, cap, by simp, by simpa using hl, by simp, by simp; unfold maxLen at hm; omega, fun _ => ⟨a, rfl, fun j p hj => ?_⟩⟩, ?_⟩
    · have hjl : j < len := by
        have := (List.getElem?_eq_some_iff.1 hj).1
        simpa using this
      obtain rfl : F j = p := by simpa [hjl] using hj
      obtain ⟨cs', h1, h2, h3, _⟩ := hF j hjl
      exact ⟨cs', h1, h3, h2⟩
    · simp only [uptoBulk, bulk_all]
      have key : ∀ (k : Nat) (es : List (DataW H × List MemPlace)), es.length = k → (∀ i, i < k → ∃ y, es[i]? = some y ∧ wt (F i) ≤ uptoBulk y.1) → (((List.range k).map F).map wt).sum ≤ ((es.map (·.1)).map uptoBulk).sum := by
        intro k
        induction k with
        | zero => intro es _ _; simp
        | succ k ih =>
          intro es he hy
          have hne : es = es.take k ++ [es[k]] := by
            rw [← List.take_succ_eq_append_getElem (by omega), List.take_of_length_le (by omega)]
          obtain ⟨y, hy1, hy2⟩ := hy k (by omega)
          rw [List.getElem?_eq_getElem (by omega)] at hy1
          have hy3 := Option.some.inj hy1
          have h1 := ih (es.take k) (by rw [List.length_take]; omega) (fun i hi => by
            obtain ⟨y, h2, h3⟩ := hy i (by omega)
            exact ⟨y, by rw [List.getElem?_take_of_lt hi]; exact h2, h3⟩)
          rw [hne, List.range_succ]
          simp only [List.map_append, List.map_cons, List.map_nil, List.sum_append, List.sum_cons, List.sum_nil]
          rw [hy3]
          omega
      have := key len elems hlen (fun i hi => by
        obtain ⟨cs', _, _, _, h⟩ := hF i hi
        exact h)
      omega
theorem opens_int {t : TypeId} {k : IntKind} (hu : Try.prog.underlying t = some (.int k)) : Opens enc W base spare held t (Kd.int k) (fun _ => 1) := by
  intro fuel cs x hx
  obtain ⟨n, rfl, rfl, _⟩ := DataW.trod_int hu hx
  exact ⟨n, rfl, by simp [uptoBulk]⟩
theorem opens_string {t : TypeId} (hu : Try.prog.underlying t = some .string) : Opens enc W base spare held t Kd.string (fun s => s.size + 1) := by
  intro fuel cs x hx
  obtain ⟨s, rfl, rfl, _⟩ := DataW.trod_string hu hx
  exact ⟨s, rfl, by simp [uptoBulk]⟩
theorem drop1 {cs : List Value} {n : Nat} {v : Value} (h : (cs.drop n).take 1 = [v]) : cs[n]? = some v := by
  have := congrArg (fun l => l[0]?) h
  simpa using this
theorem cellsOf (t n : Nat) (h : Try.prog.cellsOf t = n) : Try.prog.cellsOf t = n := h
theorem opens66 : Opens enc W base spare held 66 k66 (fun x => 3) := by
  intro fuel cs x hx
  obtain ⟨xs, n, _, rfl, hl, hlen, hf⟩ := DataW.trod_struct Try.underlying66 hx
  have hl2 : cs.length = 2 := hl.trans (by kernel_rfl)
  have c49 : Try.prog.cellsOf 49 = 1 := by kernel_rfl
  have c9 : Try.prog.cellsOf 9 = 1 := by kernel_rfl
  match xs, hlen with
  | [y0, y1], _ =>
    have h0 : DataW.trod enc Try.prog W base spare held n 49 ((cs.drop 0).take (Try.prog.cellsOf 49)) = some y0 := hf 0 _ rfl
    have h1 : DataW.trod enc Try.prog W base spare held n 9 ((cs.drop 1).take (Try.prog.cellsOf 9)) = some y1 := hf 1 _ rfl
    rw [c49] at h0
    rw [c9] at h1
    obtain ⟨i, e0, rfl, _⟩ := DataW.trod_int Try.underlying49 h0
    obtain ⟨s, e1, rfl, _⟩ := DataW.trod_string Try.underlying9 h1
    have g0 := drop1 e0
    have g1 := drop1 e1
    match cs, hl2 with
    | [a, b], _ =>
      obtain rfl : a = .int .u16 i := by simpa using g0
      obtain rfl : b = .string s := by simpa using g1
      exact ⟨⟨i, s⟩, k66_mk _ _, by simp [uptoBulk, uptoBulkAll]; omega⟩
theorem opens63 : Opens enc W base spare held 63 kB63 (fun x => 1024) := by
  intro fuel cs x hx
  obtain ⟨xs, n, _, rfl, hl, hlen, hf⟩ := DataW.trod_struct Try.underlying63 hx
  have hl2 : cs.length = 1025 := hl.trans (by kernel_rfl)
  have c3 : Try.prog.cellsOf 3 = 1 := by kernel_rfl
  have c61 : Try.prog.cellsOf 61 = 1024 := by kernel_rfl
  have c5 : Try.prog.cellsOf 5 = 1 := by kernel_rfl
  match xs, hlen with
  | [y0, y1], _ =>
    have h0 : DataW.trod enc Try.prog W base spare held n 3 ((cs.drop 0).take (Try.prog.cellsOf 3)) = some y0 := hf 0 _ rfl
    have h1 : DataW.trod enc Try.prog W base spare held n 61 ((cs.drop 1).take (Try.prog.cellsOf 61)) = some y1 := hf 1 _ rfl
    rw [c3] at h0
    rw [c61] at h1
    obtain ⟨i, e0, rfl, _⟩ := DataW.trod_int Try.underlying3 h0
    obtain ⟨zs, m, _, rfl, _, hzl, hz⟩ := DataW.trod_array Try.underlying61 h1
    have g0 := drop1 e0
    have each : ∀ j, ∃ b : UInt8, j < 1024 → cs[1 + j]? = some (Extern.Stop.cell b) ∧ ∃ ps, zs[j]? = some (.lit (.int .u8 b.toNat), ps) := by
      intro j
      by_cases hj : j < 1024
      · have h2 := hz j hj
        rw [c5, List.getElem?_eq_getElem (by omega)] at h2
        obtain ⟨v, e1, e2, hw⟩ := DataW.trod_int Try.underlying5 h2
        have g1 := drop1 e1
        rw [Nat.mul_one, List.getElem?_take_of_lt hj, List.getElem?_drop] at g1
        simp only [Lit.wf, Bool.and_eq_true, decide_eq_true_eq] at hw
        have hw2 : 0 ≤ v ∧ v < 256 := by
          obtain ⟨w1, w2⟩ := hw
          have e1 : IntKind.u8.min = 0 := by decide
          have e2 : IntKind.u8.max = 255 := by decide
          rw [e1] at w1
          rw [e2] at w2
          omega
        have hb : ((UInt8.ofNat v.toNat).toNat : Int) = v := by
          rw [UInt8.toNat_ofNat']
          omega
        refine ⟨UInt8.ofNat v.toNat, fun _ => ⟨?_, ?_⟩⟩
        · rw [g1]
          show some (Value.int .u8 v) = some (Value.int .u8 (Int.ofNat (UInt8.ofNat v.toNat).toNat))
          rw [show Int.ofNat (UInt8.ofNat v.toNat).toNat = v from hb]
        · exact ⟨[], by rw [hb, List.getElem?_eq_getElem (by omega), e2]⟩
      · exact ⟨0, fun h => absurd h hj⟩
    obtain ⟨F, hF⟩ := Classical.axiomOfChoice each
    obtain ⟨dl, hdl, hdj⟩ : ∃ dl : List UInt8, dl.length = 1024 ∧ ∀ j, j < 1024 → dl[j]? = some (F j) := ⟨(List.range 1024).map F, by rw [List.length_map, List.length_range], fun j hj => by rw [List.getElem?_map, List.getElem?_range hj]; rfl⟩
    refine ⟨⟨i, dl, hdl⟩, ?_, ?_⟩
    · show cs = Value.int .i64 i :: dl.map Extern.Stop.cell
      apply List.ext_getElem?
      intro j
      cases j with
      | zero => rw [g0]; rfl
      | succ j =>
        rw [List.getElem?_cons_succ]
        by_cases hj : j < 1024
        · rw [Nat.add_comm j 1, (hF j hj).1, List.getElem?_map, hdj j hj]
          rfl
        · rw [List.getElem?_eq_none (by omega), List.getElem?_eq_none (by rw [List.length_map]; omega)]
    · have h3 := bulk_len (zs.map (·.1))
      rw [List.length_map, hzl] at h3
      show 1024 ≤ 1 + (uptoBulkAll (zs.map (·.1)) + 1 + 0) + 1
      omega
theorem sum_const {α : Type} (l : List α) (c : Nat) : (l.map fun _ => c).sum = l.length * c := by
  induction l with
  | nil => simp
  | cons x r ih => simp [Nat.succ_mul]; omega
def wt54 (x : S54) : Nat := x.f5.length * 1024 + x.f6.length * 3 + 1
set_option maxRecDepth 100000 in
theorem ar54 {n5 n6 u5 u6 : Nat} (b5 : n5 * 1024 + 1 ≤ u5) (b6 : n6 * 3 + 1 ≤ u6) : n5 * 1024 + n6 * 3 + 1 ≤ 1 + (1 + (1 + (1 + (1 + (u5 + (u6 + 0)))))) + 1 := by omega
theorem opens54 : Opens enc W base spare held 54 k54 wt54 := by
  intro fuel cs x hx
  obtain ⟨xs, n, _, rfl, hl, hlen, hf⟩ := DataW.trod_struct Try.underlying54 hx
  have hl2 : cs.length = 7 := hl.trans (by kernel_rfl)
  have c3 : Try.prog.cellsOf 3 = 1 := by kernel_rfl
  have c50 : Try.prog.cellsOf 50 = 1 := by kernel_rfl
  have c51 : Try.prog.cellsOf 51 = 1 := by kernel_rfl
  have c52 : Try.prog.cellsOf 52 = 1 := by kernel_rfl
  match xs, hlen with
  | [y0, y1, y2, y3, y4, y5, y6], _ =>
    have h0 : DataW.trod enc Try.prog W base spare held n 3 ((cs.drop 0).take (Try.prog.cellsOf 3)) = some y0 := hf 0 _ rfl
    have h1 : DataW.trod enc Try.prog W base spare held n 50 ((cs.drop 1).take (Try.prog.cellsOf 50)) = some y1 := hf 1 _ rfl
    have h2 : DataW.trod enc Try.prog W base spare held n 3 ((cs.drop 2).take (Try.prog.cellsOf 3)) = some y2 := hf 2 _ rfl
    have h3 : DataW.trod enc Try.prog W base spare held n 3 ((cs.drop 3).take (Try.prog.cellsOf 3)) = some y3 := hf 3 _ rfl
    have h4 : DataW.trod enc Try.prog W base spare held n 3 ((cs.drop 4).take (Try.prog.cellsOf 3)) = some y4 := hf 4 _ rfl
    have h5 : DataW.trod enc Try.prog W base spare held n 51 ((cs.drop 5).take (Try.prog.cellsOf 51)) = some y5 := hf 5 _ rfl
    have h6 : DataW.trod enc Try.prog W base spare held n 52 ((cs.drop 6).take (Try.prog.cellsOf 52)) = some y6 := hf 6 _ rfl
    rw [c3] at h0 h2 h3 h4
    rw [c50] at h1
    rw [c51] at h5
    rw [c52] at h6
    obtain ⟨i0, e0, rfl, _⟩ := DataW.trod_int Try.underlying3 h0
    obtain ⟨i1, e1, rfl, _⟩ := DataW.trod_int Try.underlying50 h1
    obtain ⟨i2, e2, rfl, _⟩ := DataW.trod_int Try.underlying3 h2
    obtain ⟨i3, e3, rfl, _⟩ := DataW.trod_int Try.underlying3 h3
    obtain ⟨i4, e4, rfl, _⟩ := DataW.trod_int Try.underlying3 h4
    obtain ⟨l5, ⟨A5, c5, e5, hc5, g5⟩, b5⟩ := opens_slice zB63 Try.underlying51 (by kernel_rfl) opens63 _ _ _ h5
    obtain ⟨l6, ⟨A6, c6, e6, hc6, g6⟩, b6⟩ := opens_slice z66 Try.underlying52 (by kernel_rfl) opens66 _ _ _ h6
    have d0 := drop1 e0
    have d1 := drop1 e1
    have d2 := drop1 e2
    have d3 := drop1 e3
    have d4 := drop1 e4
    have d5 := drop1 e5
    have d6 := drop1 e6
    have b5 : (l5.map fun _ => 1024).sum + 1 ≤ uptoBulk y5.1 := b5
    have b6 : (l6.map fun _ => 3).sum + 1 ≤ uptoBulk y6.1 := b6
    rw [sum_const] at b5 b6
    match cs, hl2 with
    | [a0, a1, a2, a3, a4, a5, a6], _ =>
      obtain rfl : a0 = .int .i64 i0 := by simpa using d0
      obtain rfl : a1 = .int .u16 i1 := by simpa using d1
      obtain rfl : a2 = .int .i64 i2 := by simpa using d2
      obtain rfl : a3 = .int .i64 i3 := by simpa using d3
      obtain rfl : a4 = .int .i64 i4 := by simpa using d4
      obtain rfl : a5 = .slice A5 l5.length c5 := by simpa using d5
      obtain rfl : a6 = .slice A6 l6.length c6 := by simpa using d6
      refine ⟨⟨i0, i1, i2, i3, i4, l5, l6⟩, k54_mk W ⟨i0, i1, i2, i3, i4, l5, l6⟩ hc5 g5 hc6 g6, ?_⟩
      exact ar54 b5 b6
def wt24 (l : List S54) : Nat := (l.map wt54).sum
theorem open24 {fuel : Nat} {cs : List Value} {x : DataW H × List MemPlace} (hx : DataW.trod enc Try.prog W base spare held fuel 24 cs = some x) :
    ∃ A c l f s, cs = [.slice A l.length c, .int .i64 f, .int .i64 s] ∧ l.length ≤ c ∧ Kd.C k54 W A l.length l ∧ wt24 l ≤ uptoBulk x.1 := by
  obtain ⟨xs, n, _, rfl, hl, hlen, hf⟩ := DataW.trod_struct Try.underlying24 hx
  have hl2 : cs.length = 3 := hl.trans (by kernel_rfl)
  have c3 : Try.prog.cellsOf 3 = 1 := by kernel_rfl
  have c22 : Try.prog.cellsOf 22 = 1 := by kernel_rfl
  match xs, hlen with
  | [y0, y1, y2], _ =>
    have h0 : DataW.trod enc Try.prog W base spare held n 22 ((cs.drop 0).take (Try.prog.cellsOf 22)) = some y0 := hf 0 _ rfl
    have h1 : DataW.trod enc Try.prog W base spare held n 3 ((cs.drop 1).take (Try.prog.cellsOf 3)) = some y1 := hf 1 _ rfl
    have h2 : DataW.trod enc Try.prog W base spare held n 3 ((cs.drop 2).take (Try.prog.cellsOf 3)) = some y2 := hf 2 _ rfl
    rw [c22] at h0
    rw [c3] at h1 h2
    obtain ⟨l, ⟨A, c, e0, hc, g⟩, b0⟩ := opens_slice z54 Try.underlying22 (by kernel_rfl) opens54 _ _ _ h0
    obtain ⟨i1, e1, rfl, _⟩ := DataW.trod_int Try.underlying3 h1
    obtain ⟨i2, e2, rfl, _⟩ := DataW.trod_int Try.underlying3 h2
    have b0 : (l.map wt54).sum + 1 ≤ uptoBulk y0.1 := b0
    have d0 := drop1 e0
    have d1 := drop1 e1
    have d2 := drop1 e2
    match cs, hl2 with
    | [a0, a1, a2], _ =>
      obtain rfl : a0 = .slice A l.length c := by simpa using d0
      obtain rfl : a1 = .int .i64 i1 := by simpa using d1
      obtain rfl : a2 = .int .i64 i2 := by simpa using d2
      refine ⟨A, c, l, i1, i2, rfl, hc, g, ?_⟩
      simp only [wt24, uptoBulk, uptoBulkAll, List.map_cons, List.map_nil]
      omega
theorem wt_mem {l : List S54} {x : S54} (h : x ∈ l) : wt54 x ≤ wt24 l := by
  unfold wt24
  induction l with
  | nil => simp at h
  | cons y r ih =>
    simp only [List.map_cons, List.sum_cons]
    rcases List.mem_cons.1 h with rfl | h
    · omega
    · have := ih h
      omega
theorem wt_len (l : List S54) : l.length ≤ wt24 l := by
  unfold wt24
  induction l with
  | nil => simp
  | cons y r ih =>
    simp only [List.map_cons, List.sum_cons, List.length_cons]
    have : 1 ≤ wt54 y := by unfold wt54; omega
    omega
theorem small_of {l : List S54} (h : wt24 l ≤ 1048576) : Small l := by
  refine ⟨?_, fun x hx => ?_, fun x hx => ?_⟩
  · have := wt_len l
    omega
  · have := wt_mem hx
    unfold wt54 at this
    omega
  · have := wt_mem hx
    unfold wt54 at this
    omega
theorem heap63 : Kd.Heap kB63 := ⟨fun _ h => h⟩
theorem heap54 : Kd.Heap k54 := Kd.heap_iso _ (Kd.heap_pair (Kd.heap_int _) (Kd.heap_pair (Kd.heap_int _) (Kd.heap_pair (Kd.heap_int _) (Kd.heap_pair (Kd.heap_int _) (Kd.heap_pair (Kd.heap_int _) (Kd.heap_pair (Kd.heap_slice _ heap63) (Kd.heap_slice _ (Kd.heap_iso _ (Kd.heap_pair (Kd.heap_int _) Kd.heap_string)))))))))
/-- As Recover's contract asks it. -/
theorem V_of {w : World} {A : Option Addr} {c : Nat} {l : List S54} (hc : l.length ≤ c) (h : Kd.C k54 w A l.length l) : Kd.V k54 54 w w.heap.size (fun _ => True) (.slice A l.length c) l :=
  ⟨A, c, rfl, hc, Kd.F_mono (Kd.C_F heap54 h) (fun _ _ => trivial)⟩
end
end Go.Proofs.Ytochgkepaleblaa.OpenS
