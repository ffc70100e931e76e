/- A part of the machine that reckons a closed run, and of the proof that what it says the given program does. No conditions. -/
import Derived.Test.YtpochibfjpanhaaGreatXr
set_option linter.unusedVariables false
set_option linter.unusedSimpArgs false
namespace Go.Proofs.YtpochibfjpanhaaGreat.Exe
open Go

/-! ### Are two values one, but for the numbers of their blocks? -/
noncomputable def toB' (o : Option Bool) : Bool := Option.rec (motive := fun _ => Bool) false (fun b => b) o
noncomputable def andB (a b : Bool) : Bool := ifB a b false
noncomputable def isoV (A : Nat → Nat → Bool) (a : AV) : AV → Bool :=
  AV.rec (motive_1 := fun _ => AV → Bool) (motive_2 := fun _ => List AV → Bool)
    (fun x b => toB' (onBool b fun y => some (ifB x y (ifB y false true))))
    (fun k n b => toB' (onInt b fun j m => some (ifB (sameKind k j) (eqK n m) false)))
    (fun s b => toB' (onStr b fun r => some (strEq s r)))
    (fun b => Nat.beq (nilNo b) 1)
    (fun p q b => toB' (onPtr b fun p' q' => some (ifB (A p p') (Nat.beq q q') false)))
    (fun b => Nat.beq (nilNo b) 2)
    (fun p q l c o b => toB' (onSl b fun p' q' l' c' o' => some (ifB (A p p') (ifB (Nat.beq q q') (ifB (Nat.beq l l') (ifB (Nat.beq c c') (ifB o o' (ifB o' false true)) false) false) false) false)))
    (fun b => Nat.beq (nilNo b) 3)
    (fun p b => toB' (onMap b fun p' => some (A p p')))
    (fun b => Nat.beq (nilNo b) 4)
    (fun f _ _ i1 i2 b => toB' (onFn b fun f' a' c' => some (ifB (Nat.beq f f') (ifB (i1 a') (i2 c') false) false)))
    (fun b => Nat.beq (nilNo b) 5)
    (fun t _ i b => toB' (onIfc b fun t' v' => some (ifB (Nat.beq t t') (i v') false)))
    (fun _ i b => toB' (onAgg b fun cs => some (i cs)))
    (fun l n b => toB' (onBytes b fun l' n' => some (ifB (Nat.beq l l') (Nat.beq n n') false)))
    (fun _ i b => toB' (onTup b fun cs => some (i cs)))
    (fun _ => false) (fun _ _ => false) (fun _ => false)
    (fun r o b => toB' (onRaw b fun r' o' => some (ifB (Nat.beq r r') (Nat.beq o o') false)))
    (fun _ _ => false)
    (fun l => List.rec true (fun _ _ _ => false) l)
    (fun _ _ i is l => List.rec false (fun x r _ => ifB (i x) (is r) false) l) a
noncomputable def isoL (A : Nat → Nat → Bool) (a : List AV) : List AV → Bool :=
  List.rec (motive := fun _ => List AV → Bool) (fun l => List.rec (motive := fun _ => Bool) true (fun _ _ _ => false) l) (fun x _ ih l => List.rec (motive := fun _ => Bool) false (fun y r _ => ifB (isoV A x y) (ih r) false) l) a
noncomputable def isoE (A : Nat → Nat → Bool) (a : List (AV × AV × Nat)) : List (AV × AV × Nat) → Bool :=
  List.rec (motive := fun _ => List (AV × AV × Nat) → Bool) (fun l => List.rec (motive := fun _ => Bool) true (fun _ _ _ => false) l)
    (fun x _ ih l => List.rec (motive := fun _ => Bool) false (fun y r _ => ifB (isoV A x.1 y.1) (ifB (isoV A x.2.1 y.2.1) (ifB (Nat.beq x.2.2 y.2.2) (ih r) false) false) false) l) a
noncomputable def isoN (a : List Nat) : List Nat → Bool :=
  List.rec (motive := fun _ => List Nat → Bool) (fun l => List.rec (motive := fun _ => Bool) true (fun _ _ _ => false) l) (fun x _ ih l => List.rec (motive := fun _ => Bool) false (fun y r _ => ifB (Nat.beq x y) (ih r) false) l) a
noncomputable def isoM (A : Nat → Nat → Bool) (a b : Option Nat) : Bool := Option.rec (motive := fun _ => Bool) (Option.rec (motive := fun _ => Bool) true (fun _ => false) b) (fun x => Option.rec (motive := fun _ => Bool) false (fun y => A x y) b) a
noncomputable def isoO (A : Nat → Nat → Bool) (a : AObj) : AObj → Bool :=
  AObj.rec (motive := fun _ => AObj → Bool)
    (fun e z cs b => AObj.rec (motive := fun _ => Bool) (fun e' z' cs' => ifB (Nat.beq e e') (ifB (Nat.beq z z') (isoL A cs cs') false) false) (fun _ _ => false) (fun _ _ _ _ _ _ _ => false) (fun _ => false) (fun _ _ _ _ => false) b)
    (fun es c b => AObj.rec (motive := fun _ => Bool) (fun _ _ _ => false) (fun es' c' => ifB (Nat.beq c c') (isoE A es es') false) (fun _ _ _ _ _ _ _ => false) (fun _ => false) (fun _ _ _ _ => false) b)
    (fun _ _ _ _ _ _ _ _ => false)
    (fun _ _ => false)
    (fun m s l c b => AObj.rec (motive := fun _ => Bool) (fun _ _ _ => false) (fun _ _ => false) (fun _ _ _ _ _ _ _ => false) (fun _ => false) (fun m' s' l' c' => ifB (isoM A m m') (ifB (Nat.beq s s') (ifB (isoN l l') (Nat.beq c c') false) false) false) b) a

/-! ### The next entry of a range: whichever; or, for a guess, the first one -/
noncomputable def on1 (xs : List AV) (k : AV → R) : R := List.rec (motive := fun _ => R) none (fun v r _ => List.rec (motive := fun _ => R) (k v) (fun _ _ _ => none) r) xs
theorem on1_some {xs : List AV} {k : AV → R} {z : AV × Option AS} (h : on1 xs k = some z) : ∃ v, xs = [v] ∧ k v = some z := by
  match xs, h with
  | [v], h => exact ⟨v, rfl, h⟩
noncomputable def firstV (v : AV) (S : AS) (c_ : K) : R :=
  onPtr v fun b _ => onIter S b fun m since seen _ => Option.rec (motive := fun _ => R) (c_ (.tup [.bool false]) S) (fun mb => onMapO S mb fun es clock => List.rec (motive := fun _ => R) (c_ (.tup [.bool false]) S) (fun e _ _ => c_ (.tup [.bool true, e.1, e.2.1]) (putK S b (.iter (some mb) since (List.append seen [e.2.2]) clock))) (leftK seen es)) m
noncomputable def nxK (first : Bool) (xs : List AV) (S : AS) (k : K) : R := on1 xs fun v => ifB first (firstV v S k) (nextV v S k)

/-! ### A number of a value, of an object: of what has changed it is another one -/
noncomputable def intNo (n : Int) : Nat := Int.rec (motive := fun _ => Nat) (fun n => Nat.mul 2 n) (fun n => Nat.succ (Nat.mul 2 n)) n
noncomputable def hashV (v : AV) : Nat :=
  AV.rec (motive_1 := fun _ => Nat) (motive_2 := fun _ => Nat) (fun b => ifB b 1 2) (fun _ n => Nat.add 3 (intNo n)) (fun s => Nat.add 5 s.size) 1 (fun p q => Nat.add 7 (Nat.add (Nat.mul 31 p) q)) 2 (fun p q l c _ => Nat.add 11 (Nat.add (Nat.mul 31 p) (Nat.add (Nat.mul 17 q) (Nat.add (Nat.mul 13 l) c)))) 3 (fun p => Nat.add 13 (Nat.mul 31 p)) 4 (fun f _ _ a b => Nat.add f (Nat.add a b)) 5 (fun _ _ i => i) (fun _ i => i) (fun _ n => n) (fun _ i => i) 6 (fun l => l) 8 (fun _ o => o) (fun _ => 9) 0 (fun _ _ a b => Nat.add a (Nat.mul 3 b)) v
noncomputable def hashL (l : List AV) : Nat := List.rec (motive := fun _ => Nat) 0 (fun v _ ih => Nat.add (hashV v) (Nat.mul 3 ih)) l
noncomputable def hashE (l : List (AV × AV × Nat)) : Nat := List.rec (motive := fun _ => Nat) 1 (fun e _ ih => Nat.add (Nat.add (hashV e.1) (Nat.add (hashV e.2.1) e.2.2)) (Nat.mul 3 ih)) l
noncomputable def hashO (o : AObj) : Nat := AObj.rec (motive := fun _ => Nat) (fun _ _ cs => hashL cs) (fun es c => Nat.add c (hashE es)) (fun st _ _ _ _ _ _ => st) (fun l => ifB l 0 1) (fun _ _ seen _ => seen.length) o

/-! ### The addresses, one behind the other -/
noncomputable def addrsV (v : AV) : List Nat → List Nat :=
  AV.rec (motive_1 := fun _ => List Nat → List Nat) (motive_2 := fun _ => List Nat → List Nat) (fun _ l => l) (fun _ _ l => l) (fun _ l => l) (fun l => l) (fun p _ l => p :: l) (fun l => l) (fun p _ _ _ _ l => p :: l) (fun l => l) (fun p l => p :: l) (fun l => l) (fun _ _ _ a b l => a (b l)) (fun l => l) (fun _ _ i l => i l) (fun _ i l => i l) (fun _ _ l => l) (fun _ i l => i l) (fun l => l) (fun _ l => l) (fun l => l) (fun _ _ l => l) (fun _ l => l) (fun l => l) (fun _ _ a b l => a (b l)) v
noncomputable def addrsL (vs : List AV) : List Nat → List Nat := List.rec (motive := fun _ => List Nat → List Nat) (fun l => l) (fun v _ ih l => addrsV v (ih l)) vs
noncomputable def addrsE (es : List (AV × AV × Nat)) : List Nat → List Nat := List.rec (motive := fun _ => List Nat → List Nat) (fun l => l) (fun e _ ih l => addrsV e.1 (addrsV e.2.1 (ih l))) es
noncomputable def addrsO (o : Option AObj) : List Nat := Option.rec (motive := fun _ => List Nat) [] (fun o => AObj.rec (motive := fun _ => List Nat) (fun _ _ cs => addrsL cs []) (fun es _ => addrsE es []) (fun _ _ _ _ _ _ _ => []) (fun _ => []) (fun m _ _ _ => Option.rec (motive := fun _ => List Nat) [] (fun b => [b]) m) o) o

/-! ### Two states: which new block of the one is which of the other -/
abbrev Pairs := List (Nat × Nat)
noncomputable def lookN (ms : Pairs) (a : Nat) : Option Nat := List.rec (motive := fun _ => Option Nat) none (fun p _ ih => ifB (Nat.beq p.1 a) (some p.2) ih) ms
noncomputable def okA (n0 : Nat) (ms : Pairs) (a b : Nat) : Bool := ifB (Nat.ble (Nat.succ a) n0) (Nat.beq a b) (Option.rec (motive := fun _ => Bool) false (fun c => Nat.beq c b) (lookN ms a))
noncomputable def forceL (l : Pairs) (k : Pairs → R) : R := List.rec (motive := fun _ => (Pairs → R) → R) (fun k => k []) (fun p _ ih k => forceN p.1 fun a => forceN p.2 fun b => ih fun r => k ((a, b) :: r)) l k
noncomputable def zipK (n0 : Nat) (l2 : List Nat) : List Nat → Pairs → Pairs :=
  List.rec (motive := fun _ => List Nat → Pairs → Pairs) (fun _ ms => ms) (fun a _ ih l ms => List.rec (motive := fun _ => Pairs) ms (fun b r _ => ih r (ifB (Nat.ble (Nat.succ a) n0) ms (Option.rec (motive := fun _ => Pairs) (List.append ms [(a, b)]) (fun _ => ms) (lookN ms a)))) l) l2
noncomputable def nthP (ms : Pairs) : Nat → Option (Nat × Nat) := List.rec (motive := fun _ => Nat → Option (Nat × Nat)) (fun _ => none) (fun p _ ih i => Nat.rec (motive := fun _ => Option (Nat × Nat)) (some p) (fun j _ => ih j) i) ms
noncomputable def oldP (n0 : Nat) (S2 S' : AS) (n : Nat) : Pairs → (Pairs → R) → R := Nat.rec (motive := fun _ => Pairs → (Pairs → R) → R) (fun ms k => k ms) (fun b ih ms k => ih ms fun ms => forceL (zipK n0 (addrsO (S2.heap.getK b)) (addrsO (S'.heap.getK b)) ms) k) n
noncomputable def newP (n0 : Nat) (S2 S' : AS) (fuel : Nat) : Nat → Pairs → (Pairs → R) → R :=
  Nat.rec (motive := fun _ => Nat → Pairs → (Pairs → R) → R) (fun _ ms k => k ms) (fun _ ih i ms k => Option.rec (motive := fun _ => R) (k ms) (fun p => forceL (zipK n0 (addrsO (S2.heap.getK p.1)) (addrsO (S'.heap.getK p.2)) ms) fun ms => ih (Nat.succ i) ms k) (nthP ms i)) fuel
noncomputable def pairsK (n0 : Nat) (v2 : AV) (S2 : AS) (v : AV) (S' : AS) (k : Pairs → R) : R :=
  forceL (zipK n0 (addrsV v2 []) (addrsV v []) []) fun ms => oldP n0 S2 S' n0 ms fun ms => newP n0 S2 S' 1000000 0 ms k

/-! ### Is the one state the other, but for the numbers of new blocks? -/
noncomputable def allP (f : Nat × Nat → Bool) (ms : Pairs) : Bool := List.rec (motive := fun _ => Bool) true (fun p _ ih => ifB (f p) ih false) ms
noncomputable def sndIn (b : Nat) (ms : Pairs) : Bool := List.rec (motive := fun _ => Bool) false (fun p _ ih => ifB (Nat.beq p.2 b) true ih) ms
noncomputable def apartP (ms : Pairs) : Bool := List.rec (motive := fun _ => Bool) true (fun p r ih => ifB (sndIn p.2 r) false ih) ms
noncomputable def oldOK (n0 : Nat) (ms : Pairs) (S S2 S' : AS) (b : Nat) : Bool :=
  Option.rec (motive := fun _ => Bool) true (fun o2 => Option.rec (motive := fun _ => Bool) false (fun o => ifB (isoO (okA n0 ms) o2 o) (Option.rec (motive := fun _ => Bool) true (fun o0 => ifB (isoO Nat.beq o2 o0) true (ifB (Nat.beq (hashO o) (hashO o0)) false true)) (S.heap.getK b)) false) (S'.heap.getK b)) (S2.heap.getK b)
noncomputable def newOK (n0 : Nat) (ms : Pairs) (S2 S' : AS) (b : Nat) : Bool :=
  Option.rec (motive := fun _ => Bool) true (fun o2 => Option.rec (motive := fun _ => Bool) false (fun c => Option.rec (motive := fun _ => Bool) false (fun o => isoO (okA n0 ms) o2 o) (S'.heap.getK c)) (lookN ms b)) (S2.heap.getK b)
noncomputable def allN (f : Nat → Bool) (n : Nat) : Bool := Nat.rec (motive := fun _ => Bool) true (fun i ih => ifB (f i) ih false) n
noncomputable def checkK (n0 : Nat) (ms : Pairs) (S : AS) (v2 : AV) (S2 : AS) (v : AV) (S' : AS) : Bool :=
  andB (Nat.ble n0 S2.next) <| andB (allP (fun p => andB (Nat.ble n0 p.1) (andB (Nat.ble (Nat.succ p.1) S2.next) (Nat.ble n0 p.2))) ms) <| andB (apartP ms) <| andB (isoV (okA n0 ms) v2 v) <|
    allN (fun b => ifB (Nat.ble (Nat.succ b) n0) (oldOK n0 ms S S2 S' b) (newOK n0 ms S2 S' b)) S2.next
noncomputable def matchK (S : AS) (v2 : AV) (S2 : AS) (v : AV) (S' : AS) : R :=
  pairsK S.next v2 S2 v S' fun ms => ifB (checkK S.next ms S v2 S2 v S') (some (.bool true, none)) none
/-- What an answer does not lead to is left away. -/
noncomputable def sweepK (n0 : Nat) (ms : Pairs) (n : Nat) : HT AObj → HT AObj := Nat.rec (motive := fun _ => HT AObj → HT AObj) (fun h => h) (fun b ih h => ih (ifB (Nat.ble (Nat.succ b) n0) h (Option.rec (motive := fun _ => HT AObj) (h.setK none b) (fun _ => h) (lookN ms b)))) n
noncomputable def packK' (n0 : Nat) (v : AV) (S' : AS) : R := pairsK n0 v S' v S' fun ms => some (v, some { heap := sweepK n0 ms S'.next S'.heap, next := S'.next })
noncomputable def yesR (r : R) : Bool := Option.rec (motive := fun _ => Bool) false isZ r
/-- A call whose ways are brought together again: 'G' guesses what it comes to. -/
noncomputable def mergeK (mg : List Nat) (g : Nat) (G : K → R) (f : K → R) (S : AS) (k : K) : R :=
  ifB (memN g mg) (onSome (G fun v S' => packK' S.next v S') fun p => Option.rec (motive := fun _ => R) none (fun S2 => ifB (yesR (f fun v S' => matchK S p.1 S2 v S')) (k p.1 S2) none) p.2) (f k)
theorem yesR_eq {r : R} (h : yesR r = true) : r = some (.bool true, none) := by
  cases r with
  | none => cases h
  | some z => rw [isZ_eq (show isZ z = true from h)]
theorem mergeK_some {mg : List Nat} {g : Nat} {G f : K → R} {S : AS} {k : K} {z : AV × Option AS} (h : mergeK mg g G f S k = some z) :
    f k = some z ∨ ∃ v2 S2, (f fun v S' => matchK S v2 S2 v S') = some (.bool true, none) ∧ k v2 S2 = some z := by
  rcases ifB_or (show ifB (memN g mg) _ (f k) = some z from h) with ⟨_, h⟩ | ⟨_, h⟩
  · obtain ⟨⟨v2, o⟩, _, h⟩ := onSome_some h
    cases o with
    | none => cases h
    | some S2 =>
      obtain ⟨h1, h2⟩ := ifB_some (show ifB (yesR (f fun v S' => matchK S v2 S2 v S')) (k v2 S2) none = some z from h)
      exact .inr ⟨v2, S2, yesR_eq h1, h2⟩
  · exact .inl h
theorem forceL_eq : ∀ (l : Pairs) (k : Pairs → R), forceL l k = k l
  | [], _ => rfl
  | (a, b) :: l, k => by
    show forceN a (fun a => forceN b fun b => forceL l fun r => k ((a, b) :: r)) = k ((a, b) :: l)
    rw [forceN_eq, forceN_eq, forceL_eq l]
theorem oldP_eq (n0 : Nat) (S2 S' : AS) : ∀ (n : Nat) (ms : Pairs) (k : Pairs → R), ∃ ms', oldP n0 S2 S' n ms k = k ms'
  | 0, ms, _ => ⟨ms, rfl⟩
  | n + 1, ms, k => by
    show ∃ ms', oldP n0 S2 S' n ms (fun ms => forceL (zipK n0 _ _ ms) k) = k ms'
    obtain ⟨m, h⟩ := oldP_eq n0 S2 S' n ms fun ms => forceL (zipK n0 (addrsO (S2.heap.getK n)) (addrsO (S'.heap.getK n)) ms) k
    exact ⟨_, h.trans (forceL_eq _ _)⟩
theorem newP_eq (n0 : Nat) (S2 S' : AS) : ∀ (n i : Nat) (ms : Pairs) (k : Pairs → R), ∃ ms', newP n0 S2 S' n i ms k = k ms'
  | 0, _, ms, _ => ⟨ms, rfl⟩
  | n + 1, i, ms, k => by
    show ∃ ms', Option.rec (motive := fun _ => R) (k ms) (fun p => forceL (zipK n0 _ _ ms) fun ms => newP n0 S2 S' n (Nat.succ i) ms k) (nthP ms i) = k ms'
    cases nthP ms i with
    | none => exact ⟨ms, rfl⟩
    | some p =>
      obtain ⟨m, h⟩ := newP_eq n0 S2 S' n (Nat.succ i) (zipK n0 (addrsO (S2.heap.getK p.1)) (addrsO (S'.heap.getK p.2)) ms) k
      exact ⟨m, (forceL_eq _ _).trans h⟩
theorem matchK_some {S S2 S' : AS} {v2 v : AV} {z : AV × Option AS} (h : matchK S v2 S2 v S' = some z) : ∃ ms, checkK S.next ms S v2 S2 v S' = true := by
  have h : forceL (zipK S.next (addrsV v2 []) (addrsV v []) []) (fun ms => oldP S.next S2 S' S.next ms fun ms => newP S.next S2 S' 1000000 0 ms fun ms => ifB (checkK S.next ms S v2 S2 v S') (some ((.bool true : AV), (none : Option AS))) none) = some z := h
  rw [forceL_eq] at h
  obtain ⟨m1, h1⟩ := oldP_eq S.next S2 S' S.next (zipK S.next (addrsV v2 []) (addrsV v []) []) fun ms => newP S.next S2 S' 1000000 0 ms fun ms => ifB (checkK S.next ms S v2 S2 v S') (some ((.bool true : AV), (none : Option AS))) none
  rw [h1] at h
  obtain ⟨m2, h2⟩ := newP_eq S.next S2 S' 1000000 0 m1 fun ms => ifB (checkK S.next ms S v2 S2 v S') (some ((.bool true : AV), (none : Option AS))) none
  rw [h2] at h
  exact ⟨m2, (ifB_some h).1⟩
end Go.Proofs.YtpochibfjpanhaaGreat.Exe
