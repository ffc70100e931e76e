/- Lists of blocks (an index and 1024 bytes): copied, and held against each other. -/
import Derived.Test.YtochgkepaleblaaBasex0
import Derived.Deep.MidRow
import Derived.Great.BuildSlice
import Derived.Stop.BytesEq
import Derived.IntWalk
set_option linter.unusedVariables false
set_option linter.unusedSimpArgs false
namespace Go.Proofs.Ytochgkepaleblaa.Held
open Go.RowKit Go.Proofs.YtochgkepaleblaaW.PrintWords Go.Proofs.YtochgkepaleblaaW.PrintLast Go.Proofs.YtochgkepaleblaaW.PrintMore

structure B63 where
  ix : Int
  data : List UInt8
  len : data.length = 1024
theorem B63.same {a b : B63} (h1 : a.ix = b.ix) (h2 : a.data = b.data) : a = b := by
  cases a
  cases b
  simp only at h1 h2
  subst h1 h2
  rfl
instance : DecidableEq B63 := fun a b => if h : a.ix = b.ix ∧ a.data = b.data then isTrue (B63.same h.1 h.2) else isFalse (fun e => h (by rw [e]; exact ⟨rfl, rfl⟩))
def zB63 : B63 := ⟨0, List.replicate 1024 0, List.length_replicate⟩
def enc63 (x : B63) : List Value := .int .i64 x.ix :: x.data.map Extern.Stop.cell
theorem enc63_len (x : B63) : (enc63 x).length = 1025 := by
  unfold enc63
  rw [List.length_cons, List.length_map, x.len]
theorem enc63_one (x : B63) : ∀ u ∈ enc63 x, u.oneCell' = true := by
  intro u hu
  rcases List.mem_cons.1 hu with rfl | hu
  · rfl
  · obtain ⟨b, _, rfl⟩ := List.mem_map.1 hu
    rfl
def kB63 : Kd B63 where
  sz := 1025
  E := []
  K := fun _ x cs => cs = enc63 x
  M := fun _ _ _ x cs => cs = enc63 x
  K_len := fun h => by rw [h]; exact enc63_len _
  K_one := fun h u hu => by
    rw [h] at hu
    exact enc63_one _ u hu
  K_below := fun _ h => h
  K_of_M := fun h => h
  M_mono := fun _ h => h
  M_bound := fun h => h
  M_move := fun _ h => h
  M_lower := fun _ h => h
theorem kB63_mkM (w : World) (base : Nat) (ok : Nat → Prop) (x : B63) : kB63.M w base ok x (enc63 x) := rfl
theorem kB63_pos : 0 < kB63.sz := Nat.succ_pos 1024
theorem kB63_sz : kB63.sz = 1025 := rfl
noncomputable def v63 : Value := ((Try.prog.info? 63).bind (·.zero)).getD (.int .i64 0)
theorem info63 : (Try.prog.info? 63).map (fun i => (i.zero, i.size, i.bytes)) = some (some v63, 1025, 1032) := by kernel_rfl
theorem v63_size : v63.cells.size = 1025 := by kernel_rfl
theorem info63x : ∃ z : Value, (Try.prog.info? 63).map (fun i => (i.zero, i.size, i.bytes)) = some (some z, 1025, 1032) ∧ z.cells.size = 1025 := ⟨v63, info63, v63_size⟩
theorem size63 : (Try.prog.info? 63).map (·.size) = some 1025 := by kernel_rfl

/-- A block that is read: its cells lie side by side. -/
theorem range63 {w : World} {A : Option Addr} {n : Nat} {xs : List B63} (h : Kd.C kB63 w A n xs) (i : Nat) (hi : i < n) :
    ∃ b o, A = some ⟨b, o, none⟩ ∧ w.rangeAt b (o + i * 1025) (enc63 (xs.getD i zB63)) := by
  obtain ⟨ad, c, e, hlen, hK, hc0⟩ := Kd.C_get h zB63 (i : Int) (by omega) (by omega)
  rw [Int.toNat_natCast] at hK hc0
  have hK' : c = enc63 (xs.getD i zB63) := hK
  subst hK'
  have hc : ∀ j u, (enc63 (xs.getD i zB63))[j]? = some u → w.cell? (ad.add (i * 1025 + j)) = some u := hc0
  obtain ⟨b, o, sp⟩ := ad
  have hsp : sp = none := by
    obtain ⟨ad2, c2, e2, hlen2, _, hc2⟩ := Kd.C_get h zB63 0 (by omega) (by omega)
    rw [e] at e2
    obtain rfl := Option.some.inj e2
    cases c2 with
    | nil => exact absurd hlen2.symm (Nat.succ_ne_zero 1024)
    | cons u us => exact World.cell?_spot (hc2 0 u rfl)
  subst hsp
  refine ⟨b, o, e, fun j v hv => ?_⟩
  have := hc j v hv
  rw [Addr.add_mid] at this
  rw [Nat.add_assoc]
  exact this
theorem fill63 (x : B63) (base : Array Value) (hb : base.size = 1025) : Instr.fill (fun i => some (i * 1025, 1025)) base [(0, .agg (enc63 x).toArray)] = some (enc63 x).toArray := by
  have h := Great.fill_whole (s := 1025) (by decide) [.agg (enc63 x).toArray] base (fun v hv => by rw [List.mem_singleton.1 hv]; show (enc63 x).toArray.size = 1025; rw [List.size_toArray, enc63_len]) (by rw [hb, List.length_singleton, Nat.one_mul])
  have e : ([Value.agg (enc63 x).toArray].flatMap fun v => v.cells.toList) = enc63 x := by
    show (enc63 x).toArray.toList ++ [] = enc63 x
    rw [List.append_nil]
  rw [e] at h
  exact h

/-- As the walk asks it. -/
theorem fill63' (x : B63) (z : Array Value) {n : Nat} (hn : n = 1025) : Instr.fill (fun i => some (i * n, n)) ((Array.range (1 * n)).map (z[· % z.size]!)) [(0, .agg (enc63 x).toArray)] = some (enc63 x).toArray := by
  subst hn
  exact fill63 x _ (by rw [Array.size_map, Array.size_range, Nat.one_mul])

structure Keep (p : Prop) : Prop where mk :: (out : p)
def undercroftref28_copyHeld.f (k : Nat) (l : List B63) : Option (List B63) := if l.length * 1032 ≤ 140737488351232 then some l else none
theorem undercroftref28_copyHeld.mono : ∀ a0 k, LeO (undercroftref28_copyHeld.f k a0) (undercroftref28_copyHeld.f (k + 1) a0) := fun _ _ => LeO.refl _

set_option maxHeartbeats 4000000 in
set_option maxRecDepth 100000 in
theorem undercroftref28_copyHeld.calls (k : Nat) (A0 : Option Addr) (c0 : Nat) (l0 : List B63) (r : List B63) (w : World) (hr0 : Kd.C kB63 w A0 l0.length l0) (hc0 : l0.length ≤ c0) (h : undercroftref28_copyHeld.f k l0 = some r) :
    Calls Try.prog 29 #[.slice A0 l0.length c0] w fun e w' => ∃ v0_ : Value, e = .returned (v0_) ∧ Kd.R kB63 63 w' w.heap.size (fun _ => True) v0_ r ∧ Below w.heap.size w w' := by
  have hr : r = l0 ∧ l0.length * 1032 ≤ 140737488351232 := by
    unfold undercroftref28_copyHeld.f at h
    split at h
    · exact ⟨(Option.some.inj h).symm, by assumption⟩
    · cases h
  obtain ⟨rfl, hlen⟩ := hr
  clear h
  have HL := Keep.mk hlen
  clear hlen
  have hsmall : r.length ≤ 136373823017 := by
    have := HL.out
    omega
  have HR := Keep.mk hr0
  clear hr0
  have HB0 := Keep.mk (Below.refl w.heap.size w)
  obtain ⟨z63, inf63, zsz63⟩ := info63x
  have Hz := Keep.mk (And.intro inf63 zsz63)
  clear inf63 zsz63
  go_enter Try.func29, Try.ntmps29
  go_wp2
  go_loopw [3, 4] (fun v3 v4 w' => ∃ i : Nat, i ≤ r.length ∧ v4 = .int .i64 i ∧ Keep (Kd.R kB63 63 w' w.heap.size (fun _ => True) v3 (r.take i)) ∧ Keep (Below w.heap.size w w')) (fun _ v4 _ => r.length - (intOf v4).toNat)
  case atStart => exact ⟨0, Nat.zero_le _, rfl, ⟨Kd.R_nil _ _ _ _ _⟩, HB0⟩
  case round =>
    clear HB0
    obtain ⟨i, hi, rfl, HO, HB⟩ := hrel
    by_cases hlt : i < r.length
    · obtain ⟨b, o, rfl, hra0⟩ := range63 HR.out i hlt
      have hra : wr.rangeAt b (o + i * 1025) (enc63 (r.getD i zB63)) := fun j v hv => (HB.out.cell (p := ⟨b, o + i * 1025 + j, none⟩) (World.block_lt_of_cell? w _ (hra0 j v hv))).trans (hra0 j v hv)
      have Hra := Keep.mk hra
      clear hra hra0
      generalize hx : r.getD i zB63 = x at *
      have Hx := Keep.mk hx
      clear hx
      have hi0 : (0 : Int) ≤ (i : Int) := Int.natCast_nonneg _
      have hi1 : (i : Int) < (r.length : Int) := by omega
      obtain ⟨i0, hinf, hz0, hz1, hz2⟩ := info_parts Hz.out.1
      have Hinf := Keep.mk (And.intro hinf (And.intro hz0 (And.intro hz1 hz2)))
      clear hinf hz0 hz1 hz2
      go_wp2_with (first | ((with_reducible refine gate_dst (N := 15) rfl ?_); refine wpList_load_mid rfl 63 _ rfl b (o + i * 1025) ?hx (enc63 x) _ Hra.out Try.underlying63 rfl (by rw [enc63_len]; exact size63) ?_; (case hx => rfl); (try simp only [Act.put, List.setIfInBounds_toArray, List.set_cons_zero, List.set_cons_succ])) | ((with_reducible refine gate_dst (N := 16) rfl ?_); go_loud (refine wpList_buildSlice rfl 51 63 1 _ rfl (enc63 x).toArray i0 z63 Try.underlying51 Hinf.out.1 Hinf.out.2.1 ?h1 ?h2 ?h3 ?_); (case h1 => rw [Hinf.out.2.2.1]; decide); (case h2 => rw [Hinf.out.2.2.1]; decide); (case h3 => (simp only [List.map_toArray, List.map_cons, List.map_nil]; exact fill63' x _ Hinf.out.2.2.1)); (try simp only [Act.put, List.setIfInBounds_toArray, List.set_cons_zero, List.set_cons_succ])) | ((with_reducible refine gate_builtin (b := .append) (xs := #[.tmp 11, .tmp 16]) rfl ?_); at_builtin; refine Kd.R_append kB63 (w0 := w) w.heap.size rfl (.tmp 11) (.tmp 16) 51 63 z63 1032 rfl Try.underlying51 Hz.out.1 Hz.out.2 kB63_pos (Nat.succ_pos 1031) u3 (r.take i) x (enc63 x) (fun _ => True) (fun _ => False) rfl rfl (kB63_mkM _ _ _ x) (fun _ hk => hk.elim) (fun _ _ => trivial) HO.out HB.out HB.out.size ?aL ?_; (case aL => have := HL.out; rw [List.length_take]; omega); intro v1 w1 ho hb hg hat; have HO1 := Keep.mk ho; have HB1 := Keep.mk hb; clear ho hb hg hat))
      clear HO HB
      go_roundw
      case rel =>
        exact ⟨i + 1, by omega, by go_num, ⟨by
          rw [List.take_succ_eq_append_getElem hlt]
          have e : r[i] = x := by
            rw [← Hx.out, List.getD_eq_getElem?_getD, List.getElem?_eq_getElem hlt]
            rfl
          rw [e]
          exact HO1.out⟩, HB1⟩
      case measure => simp [intOf]; omega
    · have e : r.take i = r := List.take_of_length_le (by omega)
      rw [e] at HO
      go_wp2
      go_ret
      exact ⟨_, rfl, HO.out, HB.out⟩
end Go.Proofs.Ytochgkepaleblaa.Held
