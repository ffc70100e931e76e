/- A part of the machine that reckons a closed run, and of the proof that what it says the given program does. No conditions. -/
import Derived.Test.YtpochibfjpanhaaGreatYj
set_option linter.unusedVariables false
set_option linter.unusedSimpArgs false
namespace Go.Proofs.YtpochibfjpanhaaGreat.Exe
open Go
variable {base w : World} {P : Program} {ρ : Rho} {S : AS} {t : T} {o : Oper} {c : K} {z : AV × Option AS} {a : Act}

/-! ### Bits -/
theorem bitN_test (i j : Nat) : (bitN i).testBit j = decide (i = j) := by unfold bitN; exact Nat.testBit_two_pow
theorem or_test (a b j : Nat) : (a ||| b).testBit j = true ↔ a.testBit j = true ∨ b.testBit j = true := by rw [Nat.testBit_or, Bool.or_eq_true]
theorem orBit_test (a i j : Nat) : (a ||| bitN i).testBit j = true ↔ a.testBit j = true ∨ i = j := by rw [or_test, bitN_test, decide_eq_true_eq]
theorem subN_test {a b : Nat} (h : subN a b = true) {j : Nat} (hj : a.testBit j = true) : b.testBit j = true := by
  have h := beq_true h
  rw [← h, Nat.testBit_and, Bool.and_eq_true] at hj
  exact hj.2
theorem zero_test (j : Nat) : (0 : Nat).testBit j = false := Nat.zero_testBit j
theorem full_test {n j : Nat} (h : j < n) : (2 ^ n - 1).testBit j = true := by rw [Nat.testBit_two_pow_sub_one]; simpa using h

/-! ### Paths -/
theorem pathOf_unpath (p : List D4) : pathOf (unpath p) = p := unpath_inj (by
  show unpath (pathF (unpath p + 1) (unpath p)) = _
  exact unpath_pathF _ _ (by omega))

/-! ### What an operation reads is all that it hangs on -/
theorem evs_congr {t t' : T} : ∀ {l : List AR}, (∀ x ∈ l, ev x t = ev x t') → evs l t = evs l t'
  | [], _ => rfl
  | x :: l, h => by
    show ev x t :: evs l t = ev x t' :: evs l t'
    rw [h x (by simp), evs_congr (l := l) fun y hy => h y (by simp [hy])]
theorem partsK_congr {t t' : T} : ∀ {l : List (Nat × Nat × AR)}, (∀ x ∈ l.map (fun p => p.2.2), ev x t = ev x t') → partsK l t = partsK l t'
  | [], _ => rfl
  | p :: l, h => by
    show (p.1, p.2.1, ev p.2.2 t) :: partsK l t = (p.1, p.2.1, ev p.2.2 t') :: partsK l t'
    rw [h p.2.2 (by simp), partsK_congr (l := l) fun y hy => h y (by simp at hy ⊢; exact .inr hy)]
theorem evO_congr {t t' : T} {x : Option AR} (h : ∀ y ∈ optL x, ev y t = ev y t') : evO x t = evO x t' := by
  cases x with
  | none => rfl
  | some y => show some (ev y t) = some (ev y t'); rw [h y (by simp [optL])]

theorem opK_congr {t t' : T} (x : AO) (h : ∀ y ∈ x.args, ev y t = ev y t') (S : AS) (c : K) : opK x t S c = opK x t' S c := by
  cases x with
  | mv x => show kMv _ _ _ _ = kMv _ _ _ _; unfold kMv; rw [h x (by simp [AO.args])]
  | pick x y1 y2 => show kPick _ _ _ _ _ _ = kPick _ _ _ _ _ _; unfold kPick; rw [h x (by simp [AO.args]), h y1 (by simp [AO.args]), h y2 (by simp [AO.args])]
  | alloc => rfl
  | box e esz x => show kBox _ _ _ _ _ _ = kBox _ _ _ _ _ _; unfold kBox; rw [h x (by simp [AO.args])]
  | build zs ps => show kBuild _ _ _ _ _ = kBuild _ _ _ _ _; unfold kBuild; rw [partsK_congr (l := ps) (fun x hx => h x (by simpa [AO.args] using hx))]
  | buildSlice e esz n zs ps => show kBuildSlice _ _ _ _ _ _ _ _ = kBuildSlice _ _ _ _ _ _ _ _; unfold kBuildSlice; rw [partsK_congr (l := ps) (fun x hx => h x (by simpa [AO.args] using hx))]
  | load g n x => show kLoad _ _ _ _ _ _ = kLoad _ _ _ _ _ _; unfold kLoad; rw [h x (by simp [AO.args])]
  | store n x y => show kStore _ _ _ _ _ _ = kStore _ _ _ _ _ _; unfold kStore; rw [h x (by simp [AO.args]), h y (by simp [AO.args])]
  | nilCheck x => show kNilCheck _ _ _ _ = kNilCheck _ _ _ _; unfold kNilCheck; rw [h x (by simp [AO.args])]
  | bin op x y => show kBin _ _ _ _ _ _ = kBin _ _ _ _ _ _; unfold kBin; rw [h x (by simp [AO.args]), h y (by simp [AO.args])]
  | eqPlain n l x y => show kEqPlain _ _ _ _ _ _ _ = kEqPlain _ _ _ _ _ _ _; unfold kEqPlain; rw [h x (by simp [AO.args]), h y (by simp [AO.args])]
  | un op x => show kUn _ _ _ _ _ = kUn _ _ _ _ _; unfold kUn; rw [h x (by simp [AO.args])]
  | toInt k x => show kToInt _ _ _ _ _ = kToInt _ _ _ _ _; unfold kToInt; rw [h x (by simp [AO.args])]
  | toBytes e x => show kToBytes _ _ _ _ _ = kToBytes _ _ _ _ _; unfold kToBytes; rw [h x (by simp [AO.args])]
  | toStr x => show kToStr _ _ _ _ = kToStr _ _ _ _; unfold kToStr; rw [h x (by simp [AO.args])]
  | mark x => show kMark _ _ _ _ = kMark _ _ _ _; unfold kMark; rw [h x (by simp [AO.args])]
  | fieldAddr n x => show kFieldAddr _ _ _ _ _ = kFieldAddr _ _ _ _ _; unfold kFieldAddr; rw [h x (by simp [AO.args])]
  | atArray l e x y => show kAtArray _ _ _ _ _ _ _ = kAtArray _ _ _ _ _ _ _; unfold kAtArray; rw [h x (by simp [AO.args]), h y (by simp [AO.args])]
  | atSlice e x y => show kAtSlice _ _ _ _ _ _ = kAtSlice _ _ _ _ _ _; unfold kAtSlice; rw [h x (by simp [AO.args]), h y (by simp [AO.args])]
  | ixArray l e g x y => show kIxArray _ _ _ _ _ _ _ _ = kIxArray _ _ _ _ _ _ _ _; unfold kIxArray; rw [h x (by simp [AO.args]), h y (by simp [AO.args])]
  | ixString x y => show kIxString _ _ _ _ _ = kIxString _ _ _ _ _; unfold kIxString; rw [h x (by simp [AO.args]), h y (by simp [AO.args])]
  | field g o n x => show kField _ _ _ _ _ _ _ = kField _ _ _ _ _ _ _; unfold kField; rw [h x (by simp [AO.args])]
  | lenConst n => rfl
  | lenOf k x => show kLenOf _ _ _ _ _ = kLenOf _ _ _ _ _; unfold kLenOf kLenAny; rw [h x (by simp [AO.args])]
  | sliceSlice e x lo hi mx =>
    show kSliceSlice _ _ _ _ _ _ _ _ = kSliceSlice _ _ _ _ _ _ _ _; unfold kSliceSlice
    rw [h x (by simp [AO.args]), evO_congr (x := lo) (fun y hy => h y (by simp [AO.args, hy])), evO_congr (x := hi) (fun y hy => h y (by simp [AO.args, hy])), evO_congr (x := mx) (fun y hy => h y (by simp [AO.args, hy]))]
  | sliceArray n e x lo hi mx =>
    show kSliceArray _ _ _ _ _ _ _ _ _ = kSliceArray _ _ _ _ _ _ _ _ _; unfold kSliceArray
    rw [h x (by simp [AO.args]), evO_congr (x := lo) (fun y hy => h y (by simp [AO.args, hy])), evO_congr (x := hi) (fun y hy => h y (by simp [AO.args, hy])), evO_congr (x := mx) (fun y hy => h y (by simp [AO.args, hy]))]
  | sliceString x lo hi =>
    show kSliceString _ _ _ _ _ _ = kSliceString _ _ _ _ _ _; unfold kSliceString
    rw [h x (by simp [AO.args]), evO_congr (x := lo) (fun y hy => h y (by simp [AO.args, hy])), evO_congr (x := hi) (fun y hy => h y (by simp [AO.args, hy]))]
  | s2ap n x => show kS2ap _ _ _ _ _ = kS2ap _ _ _ _ _; unfold kS2ap; rw [h x (by simp [AO.args])]
  | extract x i => show kExtract _ _ _ _ _ = kExtract _ _ _ _ _; unfold kExtract; rw [h x (by simp [AO.args])]
  | call => rfl
  | dyn => rfl
  | defer => rfl
  | invoke => rfl
  | append e esz b x y => show kAppend _ _ _ _ _ _ _ _ = kAppend _ _ _ _ _ _ _ _; unfold kAppend; rw [h x (by simp [AO.args]), h y (by simp [AO.args])]
  | minmax m l => show kMinmax _ _ _ _ _ = kMinmax _ _ _ _ _; unfold kMinmax; rw [evs_congr (l := l) (fun y hy => h y (by simpa [AO.args] using hy))]
  | mapUpdate s m k v => show kMapUpdate _ _ _ _ _ _ _ = kMapUpdate _ _ _ _ _ _ _; unfold kMapUpdate; rw [h m (by simp [AO.args]), h k (by simp [AO.args]), h v (by simp [AO.args])]
  | lookup s z m k ok => show kLookup _ _ _ _ _ _ _ _ = kLookup _ _ _ _ _ _ _ _; unfold kLookup; rw [h m (by simp [AO.args]), h k (by simp [AO.args])]
  | makeMap => rfl
  | makeSlice e esz b z x y => show kMakeSlice _ _ _ _ _ _ _ _ _ = kMakeSlice _ _ _ _ _ _ _ _ _; unfold kMakeSlice; rw [h x (by simp [AO.args]), h y (by simp [AO.args])]
  | makeFunc f l m => show kMakeFunc _ _ _ _ _ _ = kMakeFunc _ _ _ _ _ _; unfold kMakeFunc; rw [evs_congr (l := l) (fun y hy => h y (by simp [AO.args, hy])), evs_congr (l := m) (fun y hy => h y (by simp [AO.args, hy]))]
  | delete s m k => show kDelete _ _ _ _ _ _ = kDelete _ _ _ _ _ _; unfold kDelete; rw [h m (by simp [AO.args]), h k (by simp [AO.args])]
  | clear e z x => show kClear _ _ _ _ _ _ = kClear _ _ _ _ _ _; unfold kClear; rw [h x (by simp [AO.args])]
  | copy e x y => show kCopy _ _ _ _ _ _ = kCopy _ _ _ _ _ _; unfold kCopy; rw [h x (by simp [AO.args]), h y (by simp [AO.args])]
  | makeIface ty x => show kMakeIface _ _ _ _ _ = kMakeIface _ _ _ _ _; unfold kMakeIface; rw [h x (by simp [AO.args])]
  | eqNil k n x y => show kEqNil _ _ _ _ _ _ _ = kEqNil _ _ _ _ _ _ _; unfold kEqNil; rw [h x (by simp [AO.args]), h y (by simp [AO.args])]
  | strOp op x y => show kStrOp _ _ _ _ _ _ = kStrOp _ _ _ _ _ _; unfold kStrOp; rw [h x (by simp [AO.args]), h y (by simp [AO.args])]
  | mrange x => show kMRange _ _ _ _ = kMRange _ _ _ _; unfold kMRange; rw [h x (by simp [AO.args])]
  | mnext x => rfl
  | mentry x => show kMEntry _ _ _ _ = kMEntry _ _ _ _; unfold kMEntry; rw [h x (by simp [AO.args])]
  | eqBool n x y => show kEqBool _ _ _ _ _ _ = kEqBool _ _ _ _ _ _; unfold kEqBool; rw [h x (by simp [AO.args]), h y (by simp [AO.args])]
  | none => rfl

theorem stepC_congr {t t' : T} {cl : Cl} (x : AO) (h : ∀ y ∈ x.args, ev y t = ev y t') (S : AS) (c : K) : stepC x cl t S c = stepC x cl t' S c := by
  cases hc : isCall x with
  | false => rw [stepC_plain hc, stepC_plain hc]; exact opK_congr x h S c
  | true =>
    cases x with
    | call f l => show cCall _ _ _ _ _ _ = cCall _ _ _ _ _ _; unfold cCall; rw [evs_congr (l := l) (fun y hy => h y (by simpa [AO.args] using hy))]
    | dyn f l => show cDyn _ _ _ _ _ _ = cDyn _ _ _ _ _ _; unfold cDyn; rw [h f (by simp [AO.args]), evs_congr (l := l) (fun y hy => h y (by simp [AO.args, hy]))]
    | defer f l => rfl
    | invoke f m l => show cInvoke _ _ _ _ _ _ _ = cInvoke _ _ _ _ _ _ _; unfold cInvoke; rw [h f (by simp [AO.args]), evs_congr (l := l) (fun y hy => h y (by simp [AO.args, hy]))]
    | mnext x => show cl .nx [ev x t] S c = cl .nx [ev x t'] S c; rw [h x (by simp [AO.args])]
    | _ => cases hc

/-- Two tables that agree on what an operation looks at. -/
def Agree (x : AOp) (t t' : T) : Prop := ∀ n ∈ looksA x, evTmp (pathOf n) t = evTmp (pathOf n) t'
theorem Agree.args {x : AOp} {t t' : T} (h : Agree x t t') : ∀ y ∈ x.op.args, ev y t = ev y t' := fun y hy => by
  cases y with
  | const v => rfl
  | tmp p =>
    have := h (unpath p) (List.mem_append_left _ (List.mem_flatMap.2 ⟨_, hy, by simp [arT]⟩))
    rw [pathOf_unpath] at this
    exact this
theorem Agree.want {x : AOp} {t t' : T} (h : Agree x t t') (k : Bool → R) : wantC x.guard t k = wantC x.guard t' k := by
  obtain ⟨dst, op, g⟩ := x
  cases g with
  | none => rfl
  | some q =>
    obtain ⟨d, b⟩ := q
    cases d with
    | none => rfl
    | some p =>
      have := h (unpath p) (List.mem_append_right _ (by simp))
      rw [pathOf_unpath] at this
      show wantV (evTmp p t) b k = wantV (evTmp p t') b k
      rw [this]

theorem wantC_cases {g : Option (Option (List D4) × Bool)} {k : Bool → R} (h : wantC g t k = some z) : ∃ b, k b = some z ∧ ∀ k', wantC g t k' = k' b := by
  cases g with
  | none => exact ⟨true, h, fun _ => rfl⟩
  | some q =>
    obtain ⟨d, b⟩ := q
    cases d with
    | none => exact ⟨false, h, fun _ => rfl⟩
    | some p =>
      have h : wantV (evTmp p t) b k = some z := h
      generalize hv : evTmp p t = v at h
      have key : ∀ k', wantC (some (some p, b)) t k' = wantV v b k' := fun k' => by show wantV (evTmp p t) b k' = _; rw [hv]
      cases v <;> first | (cases h; done) | skip
      · exact ⟨_, h, fun k' => key k'⟩
      · exact ⟨false, h, fun k' => key k'⟩

/-! ### The sameness of values -/
theorem toB_true {o : Option Bool} (h : toB o = true) : o = some true := by
  cases o with
  | none => cases h
  | some b => exact congrArg some h
theorem nilNo_1 {b : AV} (h : nilNo b = 1) : b = .pnil := by cases b <;> first | rfl | (exfalso; have h9 : (0 : Nat) = 1 := h; omega) | (exfalso; have h9 : (2 : Nat) = 1 := h; omega) | (exfalso; have h9 : (3 : Nat) = 1 := h; omega) | (exfalso; have h9 : (4 : Nat) = 1 := h; omega) | (exfalso; have h9 : (5 : Nat) = 1 := h; omega) | (exfalso; have h9 : (11 : Nat) = 1 := h; omega) | (exfalso; have h9 : (12 : Nat) = 1 := h; omega) | (exfalso; have h9 : (13 : Nat) = 1 := h; omega) | (exfalso; have h9 : (14 : Nat) = 1 := h; omega) | (exfalso; have h9 : (15 : Nat) = 1 := h; omega)
theorem nilNo_2 {b : AV} (h : nilNo b = 2) : b = .snil := by cases b <;> first | rfl | (exfalso; have h9 : (0 : Nat) = 2 := h; omega) | (exfalso; have h9 : (1 : Nat) = 2 := h; omega) | (exfalso; have h9 : (3 : Nat) = 2 := h; omega) | (exfalso; have h9 : (4 : Nat) = 2 := h; omega) | (exfalso; have h9 : (5 : Nat) = 2 := h; omega) | (exfalso; have h9 : (11 : Nat) = 2 := h; omega) | (exfalso; have h9 : (12 : Nat) = 2 := h; omega) | (exfalso; have h9 : (13 : Nat) = 2 := h; omega) | (exfalso; have h9 : (14 : Nat) = 2 := h; omega) | (exfalso; have h9 : (15 : Nat) = 2 := h; omega)
theorem nilNo_3 {b : AV} (h : nilNo b = 3) : b = .mnil := by cases b <;> first | rfl | (exfalso; have h9 : (0 : Nat) = 3 := h; omega) | (exfalso; have h9 : (1 : Nat) = 3 := h; omega) | (exfalso; have h9 : (2 : Nat) = 3 := h; omega) | (exfalso; have h9 : (4 : Nat) = 3 := h; omega) | (exfalso; have h9 : (5 : Nat) = 3 := h; omega) | (exfalso; have h9 : (11 : Nat) = 3 := h; omega) | (exfalso; have h9 : (12 : Nat) = 3 := h; omega) | (exfalso; have h9 : (13 : Nat) = 3 := h; omega) | (exfalso; have h9 : (14 : Nat) = 3 := h; omega) | (exfalso; have h9 : (15 : Nat) = 3 := h; omega)
theorem nilNo_4 {b : AV} (h : nilNo b = 4) : b = .fnil := by cases b <;> first | rfl | (exfalso; have h9 : (0 : Nat) = 4 := h; omega) | (exfalso; have h9 : (1 : Nat) = 4 := h; omega) | (exfalso; have h9 : (2 : Nat) = 4 := h; omega) | (exfalso; have h9 : (3 : Nat) = 4 := h; omega) | (exfalso; have h9 : (5 : Nat) = 4 := h; omega) | (exfalso; have h9 : (11 : Nat) = 4 := h; omega) | (exfalso; have h9 : (12 : Nat) = 4 := h; omega) | (exfalso; have h9 : (13 : Nat) = 4 := h; omega) | (exfalso; have h9 : (14 : Nat) = 4 := h; omega) | (exfalso; have h9 : (15 : Nat) = 4 := h; omega)
theorem nilNo_5 {b : AV} (h : nilNo b = 5) : b = .inil := by cases b <;> first | rfl | (exfalso; have h9 : (0 : Nat) = 5 := h; omega) | (exfalso; have h9 : (1 : Nat) = 5 := h; omega) | (exfalso; have h9 : (2 : Nat) = 5 := h; omega) | (exfalso; have h9 : (3 : Nat) = 5 := h; omega) | (exfalso; have h9 : (4 : Nat) = 5 := h; omega) | (exfalso; have h9 : (11 : Nat) = 5 := h; omega) | (exfalso; have h9 : (12 : Nat) = 5 := h; omega) | (exfalso; have h9 : (13 : Nat) = 5 := h; omega) | (exfalso; have h9 : (14 : Nat) = 5 := h; omega) | (exfalso; have h9 : (15 : Nat) = 5 := h; omega)

mutual
theorem sameV_eq : ∀ (x y : AV), sameV x y = true → x = y
  | .bool x, y, h => by
    obtain ⟨b, rfl, h9⟩ := onBool_some (toB_true h)
    cases x <;> cases b <;> first | rfl | cases h9
  | .int k n, y, h => by
    obtain ⟨j, m, rfl, h9⟩ := onInt_some (toB_true h)
    obtain ⟨h1, h2⟩ := ifB_bool (Option.some.inj h9)
    rw [eqK_eq, decide_eq_true_eq] at h2
    rw [kindNo_inj h1, h2]
  | .str s, y, h => by
    obtain ⟨r, rfl, h9⟩ := onStr_some (toB_true h)
    rw [(strEq_iff s r).1 (Option.some.inj h9)]
  | .pnil, y, h => (nilNo_1 (beq_true h)).symm
  | .ptr p q, y, h => by
    obtain ⟨p', q', rfl, h9⟩ := onPtr_some (toB_true h)
    obtain ⟨h1, h2⟩ := ifB_bool (Option.some.inj h9)
    rw [beq_true h1, beq_true h2]
  | .snil, y, h => (nilNo_2 (beq_true h)).symm
  | .sl p q l c o, y, h => by
    obtain ⟨p', q', l', c', o', rfl, h9⟩ := onSl_some (toB_true h)
    obtain ⟨h1, h8⟩ := ifB_bool (Option.some.inj h9)
    obtain ⟨h2, h7⟩ := ifB_bool h8
    obtain ⟨h3, h6⟩ := ifB_bool h7
    obtain ⟨h4, h5⟩ := ifB_bool h6
    rw [beq_true h1, beq_true h2, beq_true h3, beq_true h4]
    cases o <;> cases o' <;> first | rfl | cases h5
  | .mnil, y, h => (nilNo_3 (beq_true h)).symm
  | .map p, y, h => by
    obtain ⟨p', rfl, h9⟩ := onMap_some (toB_true h)
    rw [beq_true (Option.some.inj h9)]
  | .fnil, y, h => (nilNo_4 (beq_true h)).symm
  | .fn f a1 c1, y, h => by
    obtain ⟨f', a', c', rfl, h9⟩ := onFn_some (toB_true h)
    obtain ⟨h1, h8⟩ := ifB_bool (Option.some.inj h9)
    obtain ⟨h2, h3⟩ := ifB_bool h8
    have h1 : f = f' := beq_true h1
    rw [h1, sameVs_eq a1 a' h2, sameVs_eq c1 c' h3]
  | .inil, y, h => (nilNo_5 (beq_true h)).symm
  | .ifc t v, y, h => by
    obtain ⟨t', v', rfl, h9⟩ := onIfc_some (toB_true h)
    obtain ⟨h1, h2⟩ := ifB_bool (Option.some.inj h9)
    have h1 : t = t' := beq_true h1
    rw [h1, sameV_eq v v' h2]
  | .agg cs, y, h => by
    obtain ⟨cs', rfl, h9⟩ := onAgg_some (toB_true h)
    rw [sameVs_eq cs cs' (Option.some.inj h9)]
  | .bytes l n, y, h => by
    obtain ⟨l', n', rfl, h9⟩ := onBytes_some (toB_true h)
    obtain ⟨h1, h2⟩ := ifB_bool (Option.some.inj h9)
    rw [beq_true h1, beq_true h2]
  | .tup cs, y, h => by
    obtain ⟨cs', rfl, h9⟩ := onTup_some (toB_true h)
    rw [sameVs_eq cs cs' (Option.some.inj h9)]
  | .junk, y, h => by cases h
  | .raw _ _, y, h => by cases h
  | .lit _, y, h => by cases h
theorem sameVs_eq : ∀ (x y : List AV), AV.rec_1 (motive_1 := fun _ => AV → Bool) (motive_2 := fun _ => List AV → Bool)
    (fun x b => toB (onBool b fun y => some (ifB x y (ifB y false true))))
    (fun k n b => toB (onInt b fun j m => some (ifB (sameKind k j) (eqK n m) false)))
    (fun s b => toB (onStr b fun r => some (strEq s r)))
    (fun b => Nat.beq (nilNo b) 1)
    (fun p q b => toB (onPtr b fun p' q' => some (ifB (Nat.beq p p') (Nat.beq q q') false)))
    (fun b => Nat.beq (nilNo b) 2)
    (fun p q l c o b => toB (onSl b fun p' q' l' c' o' => some (ifB (Nat.beq p p') (ifB (Nat.beq q q') (ifB (Nat.beq l l') (ifB (Nat.beq c c') (ifB o o' (ifB o' false true)) false) false) false) false)))
    (fun b => Nat.beq (nilNo b) 3)
    (fun p b => toB (onMap b fun p' => some (Nat.beq p p')))
    (fun b => Nat.beq (nilNo b) 4)
    (fun f _ _ i1 i2 b => toB (onFn b fun f' a' c' => some (ifB (Nat.beq f f') (ifB (i1 a') (i2 c') false) false)))
    (fun b => Nat.beq (nilNo b) 5)
    (fun t _ i b => toB (onIfc b fun t' v' => some (ifB (Nat.beq t t') (i v') false)))
    (fun _ i b => toB (onAgg b fun cs => some (i cs)))
    (fun l n b => toB (onBytes b fun l' n' => some (ifB (Nat.beq l l') (Nat.beq n n') false)))
    (fun _ i b => toB (onTup b fun cs => some (i cs)))
    (fun _ => false) (fun _ _ => false) (fun _ => false) (fun _ _ _ => false) (fun _ _ => false)
    (fun l => List.rec true (fun _ _ _ => false) l)
    (fun _ _ i is l => List.rec false (fun x r _ => ifB (i x) (is r) false) l) x y = true → x = y
  | [], [], _ => rfl
  | [], _ :: _, h => by cases h
  | _ :: _, [], h => by cases h
  | x :: xs, y :: ys, h => by
    obtain ⟨h1, h2⟩ := ifB_bool h
    rw [sameV_eq x y h1, sameVs_eq xs ys h2]
end
theorem sameD_true {d : Option (List D4)} {v : AV} (h : sameD d v t = true) : ∀ p, d = some p → evTmp p t = v := fun p hp => by
  subst hp
  exact (sameV_eq _ _ h).symm
end Go.Proofs.YtpochibfjpanhaaGreat.Exe
