/- A part of the proof that TopMoulds always answers true. -/
import Derived.Test.YtkpbchnggdnmaaaGreatCOrMap
import Derived.Test.YtkpbchnggdnmaaaGreatCRegion2
import Derived.Test.YtkpbchnggdnmaaaGreatCRegion9
set_option linter.all false
namespace Go.Proofs.YtkpbchnggdnmaaaGreat
open Go.RowKit
def rowC (N : Nat) (F : Nat → Value) : Array Value := ((List.range N).map F).toArray
theorem rowC_get {N : Nat} {F : Nat → Value} {p : Nat} (h : p < N) : (rowC N F)[p]? = some (F p) := by simp [rowC, h]
theorem rowC_set (N : Nat) (F : Nat → Value) (p : Nat) (v : Value) : (rowC N F).setIfInBounds p v = rowC N (fun q => if q = p then v else F q) := by
 apply Array.ext_getElem?
 intro i
 rw [Array.getElem?_setIfInBounds]
 by_cases hi : i < N
 ·rw [rowC_get hi]
  by_cases h : p = i
  ·subst h; simp [rowC, hi]
  rw [if_neg h, rowC_get hi, if_neg (fun e => h e.symm)]
 have h1 : ∀ G : Nat → Value, (rowC N G)[i]? = none := fun G => Array.getElem?_eq_none (by simp [rowC]; omega)
 rw [h1, h1]
 split
 ·rw [if_neg (by simp [rowC]; omega)]
 rfl
theorem rowC_congr {N : Nat} {F G : Nat → Value} (h : ∀ p, p < N → F p = G p) : rowC N F = rowC N G := by
 unfold rowC
 exact congrArg List.toArray (List.map_congr_left fun p hp => h p (List.mem_range.1 hp))
theorem Blk.row {w : World} {g : Nat} {t : TypeId} {N : Nat} {F : Nat → Value} (h : Blk w g t (rowC N F)) {p : Nat} (hp : p < N) : w.cell? ⟨g, p, none⟩ = some (F p) := (h.cell p).trans (rowC_get hp)
theorem Blk.rowSet {w : World} {g : Nat} {t : TypeId} {N : Nat} {F : Nat → Value} (h : Blk w g t (rowC N F)) (p : Nat) (v : Value) : Blk (w.setCell ⟨g, p, none⟩ v) g t (rowC N (fun q => if q = p then v else F q)) := by rw [← rowC_set]; exact h.set_ p v
theorem Blk.rowEq {w : World} {g : Nat} {t : TypeId} {N : Nat} {F G : Nat → Value} (h : Blk w g t (rowC N F)) (he : ∀ p, p < N → F p = G p) : Blk w g t (rowC N G) := by rw [← rowC_congr he]; exact h
theorem wp_region_inva {id : Nat} {P : Program} {ops : Array Oper} {Q : Exit → Act → World → Prop} {a0 : Act} {w0 : World} (I : (Nat → Bool) → (Nat → Value) → World → Prop)
  (hP : P.follows .mixedOrders = true) (hd : noDefB ops = true) (hgood : goodB ops ops.size = true) (hI : I (fun _ => false) (slot0 ops a0) { w0 with drawn := w0.drawn + 1 })
  (step : StepsI P ops I Q a0 ops.toList 0)
  (fin : ∀ (ls : Nat → Bool) (vs : Nat → Value) (w : World), I ls vs w → (∀ i, i < ops.size → ls i = true) → Q .normal (fillA ops.toList 0 vs a0) w) : (Code.region id ops true).wp P Q a0 w0 := by
 refine wp_region_inv I ops.size hP hd hgood (Nat.le_refl _) hI (fun j o' hj ho' => ?_) (fun ls vs w hI hl hU => ?_)
 ·have := step.get (j := j) (o := o') (by simpa using ho')
  rwa [Nat.zero_add] at this
 rw [Nat.sub_self]
 exact fin ls vs w hI hl
theorem wpIn_region_inva {F : Fence} {r : Option Nat} (hF : F = { Fence.wide with round := r }) {n id : Nat} {P : Program} {ops : Array Oper} {Q : Exit → Act → World → Prop} {a0 : Act} {w0 : World} (I : (Nat → Bool) → (Nat → Value) → World → Prop)
  (hP : P.follows .mixedOrders = true) (hd : noDefB ops = true) (hgood : goodB ops ops.size = true) (hI : I (fun _ => false) (slot0 ops a0) { w0 with drawn := w0.drawn + 1 })
  (step : StepsI P ops I Q a0 ops.toList 0)
  (fin : ∀ (ls : Nat → Bool) (vs : Nat → Value) (w : World), I ls vs w → (∀ i, i < ops.size → ls i = true) → Q .normal (fillA ops.toList 0 vs a0) w) : (Code.region id ops true).wpIn F n P Q a0 w0 := by
 refine wpIn_region_inv hF I ops.size hP hd hgood (Nat.le_refl _) hI (fun j o' hj ho' => ?_) (fun ls vs w hI hl hU => ?_)
 ·have := step.get (j := j) (o := o') (by simpa using ho')
  rwa [Nat.zero_add] at this
 rw [Nat.sub_self]
 exact fin ls vs w hI hl
def InvV (W0 : World) (VAL : Nat → Value) (ls : Nat → Bool) (vs : Nat → Value) (w : World) : Prop := Below W0.heap.size W0 w ∧ ∀ i, ls i = true → vs i = VAL i
theorem InvV.zero {W0 : World} {VAL : Nat → Value} {vs : Nat → Value} : InvV W0 VAL (fun _ => false) vs { W0 with drawn := W0.drawn + 1 } := ⟨(Below.refl _ _).drew, fun i h => by cases h⟩
theorem InvV.step {W0 w w' : World} {VAL : Nat → Value} {ls : Nat → Bool} {vs : Nat → Value} {j : Nat} {v : Value} (hI : InvV W0 VAL ls vs w) (hb : Below w.heap.size w w') (hv : v = VAL j) : InvV W0 VAL (updB ls j) (updV vs j v) w' := by
 refine ⟨bl_call hI.1 hb (Nat.le_refl _), fun i hi => ?_⟩
 by_cases e : i = j
 ·subst e; simpa [updV] using hv
 have : updB ls j i = ls i := by unfold updB; rw [if_neg e]
 rw [this] at hi
 rw [show updV vs j v i = vs i by simp [updV, e]]
 exact hI.2 i hi
def NewE (B : Nat) (t : TypeId) (old new : Array Value) (VAL : Nat → Value) (ja js : Nat) (i : Nat) (b : Bool) (v : Value) (w : World) : Prop :=
 (i = ja → ∃ q, v = .pointer (some ⟨q, 0, none⟩) ∧ B ≤ q ∧ Blk w q t (if b then new else old)) ∧ (i ≠ ja → i ≠ js → v = VAL i)
theorem NewE.stab {B : Nat} {t : TypeId} {old new : Array Value} {VAL : Nat → Value} {ja js : Nat} : ∀ i b v w w', Below w.heap.size w w' → NewE B t old new VAL ja js i b v w → NewE B t old new VAL ja js i b v w' := by
 rintro i b v w w' hb ⟨h1, h2⟩
 exact ⟨fun e => by obtain ⟨q, h3, h4, h5⟩ := h1 e; exact ⟨q, h3, h4, h5.bl hb⟩, h2⟩
def InvN (W0 : World) (t : TypeId) (old new : Array Value) (VAL : Nat → Value) (ja js : Nat) (ls : Nat → Bool) (vs : Nat → Value) (w : World) : Prop := InvE W0.heap.size W0 (NewE W0.heap.size t old new VAL ja js) js ls vs w
section
variable {W0 : World} {t : TypeId} {old new : Array Value} {VAL : Nat → Value} {ja js j : Nat} {ls : Nat → Bool} {vs : Nat → Value} {w w' : World} {v : Value}
theorem InvN.zero : InvN W0 t old new VAL ja js (fun _ => false) vs { W0 with drawn := W0.drawn + 1 } := ⟨(Below.refl _ _).drew, fun i h => by cases h⟩
theorem InvN.val (hI : InvN W0 t old new VAL ja js ls vs w) (h : ls j = true) (h1 : j ≠ ja) (h2 : j ≠ js) : vs j = VAL j := (hI.2 j h).2 h1 h2
theorem InvN.blk (hI : InvN W0 t old new VAL ja js ls vs w) (h : ls ja = true) : ∃ q, vs ja = .pointer (some ⟨q, 0, none⟩) ∧ W0.heap.size ≤ q ∧ Blk w q t (if ls js then new else old) := (hI.2 ja h).1 rfl
theorem InvN.step (hI : InvN W0 t old new VAL ja js ls vs w) (hb : Below w.heap.size w w') (h1 : j ≠ ja) (h2 : j ≠ js) (hv : v = VAL j) : InvN W0 t old new VAL ja js (updB ls j) (updV vs j v) w' :=
 InvE.step NewE.stab hI hb hI.1.size h2 ⟨fun e => absurd e h1, fun _ _ => hv⟩
theorem InvN.laid (hI : InvN W0 t old new VAL ja js ls vs w) (hne : ja ≠ js) (hs : ls js = false) : InvN W0 t old new VAL ja js (updB ls ja) (updV vs ja (.pointer (some ⟨w.heap.size, 0, none⟩))) (w.alloc (.cells old t)) :=
 InvE.step NewE.stab hI (bl_alloc (Below.refl _ _) _ (Nat.le_refl _)) hI.1.size hne ⟨fun _ => ⟨_, rfl, hI.1.size, by rw [hs]; exact Blk.new _ _ _ rfl⟩, fun h => absurd rfl h⟩
theorem InvN.store (hI : InvN W0 t old new VAL ja js ls vs w) (hne : ja ≠ js) (ha : ls ja = true) (hb : Below W0.heap.size W0 w') {q : Nat} (hq : vs ja = .pointer (some ⟨q, 0, none⟩)) (hB : W0.heap.size ≤ q) (hn : Blk w' q t new) : InvN W0 t old new VAL ja js (updB ls js) (updV vs js v) w' := by
 refine ⟨hb, fun i hi => ?_⟩
 have h0 : updB ls js js = true := by simp [updB]
 rw [h0]
 by_cases e : i = js
 ·subst e
  exact ⟨fun e => absurd e.symm hne, fun _ h => absurd rfl h⟩
 have : updB ls js i = ls i := by unfold updB; rw [if_neg e]
 rw [this] at hi
 rw [show updV vs js v i = vs i by simp [updV, e]]
 refine ⟨fun e2 => ?_, (hI.2 i hi).2⟩
 subst e2
 exact ⟨q, hq, hB, hn⟩
end
open Go.RowKit
def slotB : List Oper → Nat → Nat → Bool
 | [], _, _ => false
 | o :: l, d, 0 => (o.dst == some d) && l.all fun o' => !(o'.dst == some d)
 | _ :: l, d, j + 1 => slotB l d j
theorem put_other (a : Act) (x : Option Tmp) (d : Nat) (v : Value) (h : (x == some d) = false) : (a.put x v).tmps[d]? = a.tmps[d]? := by
 cases x with
 | none => rfl
 | some t =>
  have hne : t ≠ d := fun e => by rw [e] at h; simp at h
  simp only [Act.put]
  rw [Array.getElem?_setIfInBounds, if_neg hne]
theorem fillA_base (l : List Oper) : ∀ (k : Nat) (vs : Nat → Value) (a : Act) (d : Nat), (l.all fun o => !(o.dst == some d)) = true → (fillA l k vs a).tmps[d]? = a.tmps[d]? := by
 induction l with
 | nil => intros; rfl
 | cons o l ih =>
  intro k vs a d h
  rw [List.all_cons, Bool.and_eq_true] at h
  rw [fillA, ih (k + 1) vs _ d h.2, put_other a o.dst d _ (by simpa using h.1)]
theorem fillA_get (l : List Oper) : ∀ (k : Nat) (vs : Nat → Value) (a : Act) (d j : Nat), slotB l d j = true → d < a.tmps.size → (fillA l k vs a).tmps[d]? = some (vs (k + j)) := by
 induction l with
 | nil => intro k vs a d j h; cases h
 | cons o l ih =>
  intro k vs a d j h hd
  cases j with
  | zero =>
   rw [slotB, Bool.and_eq_true] at h
   rw [fillA, fillA_base l _ _ _ _ h.2]
   have e : o.dst = some d := by simpa using h.1
   rw [e]
   simp [Act.put, Array.getElem?_setIfInBounds, hd]
  | succ j =>
   rw [fillA, ih (k + 1) vs _ d j h (by cases o.dst <;> simpa [Act.put] using hd), show k + 1 + j = k + (j + 1) by omega]
theorem fillA_get0 {l : List Oper} {vs : Nat → Value} {a : Act} {d j : Nat} (h : slotB l d j = true) (hd : d < a.tmps.size) : (fillA l 0 vs a).tmps[d]? = some (vs j) := by
 have := fillA_get l 0 vs a d j h hd
 rwa [Nat.zero_add] at this
theorem fillA_base0 {l : List Oper} {vs : Nat → Value} {a : Act} {d : Nat} (h : (l.all fun o => !(o.dst == some d)) = true) : (fillA l 0 vs a).tmps[d]? = a.tmps[d]? := fillA_base l 0 vs a d h
theorem fillA_defers (l : List Oper) : ∀ (k : Nat) (vs : Nat → Value) (a : Act), (fillA l k vs a).defers = a.defers := by
 induction l with
 | nil => intros; rfl
 | cons o l ih => intro k vs a; rw [fillA, ih]; cases o.dst <;> rfl
theorem Fin1.none {P : Program} {ops : Array Oper} {C : World → Prop} {E : Nat → Value → World → Prop} {Q : Exit → Act → World → Prop} {a0 : Act} {m : Nat} (hm : ops.size ≤ m)
  (h : ∀ (vs : Nat → Value) (w : World) (a1 : Act), C w → (∀ i, i < m → E i (vs i) w) → a1 = fillA ops.toList 0 vs a0 → Q .normal a1 w) : Fin1 P ops C E Q a0 m := by
 intro vs w hC hE hU
 rw [Array.getElem?_eq_none hm]
 exact h vs w _ hC hE rfl
theorem fg {l : List Oper} {vs : Nat → Value} {a a0 : Act} {N : Nat} (d j : Nat) (ha : a = fillA l 0 vs a0) (hs : a0.tmps.size = N) (h : slotB l d j = true) (hd : d < N) : a.tmps[d]? = some (vs j) := by
  subst ha; exact fillA_get0 h (by rw [hs]; exact hd)
theorem fq {l : List Oper} {vs : Nat → Value} {a a0 : Act} {N : Nat} {v : Value} (d j : Nat) (ha : a = fillA l 0 vs a0) (hs : a0.tmps.size = N) (h : slotB l d j = true) (hd : d < N) (hq : vs j = v) : a.tmps[d]? = some v := by
  rw [fg d j ha hs h hd, show vs j = v from hq]
theorem fb {l : List Oper} {vs : Nat → Value} {a a0 : Act} {d : Nat} {v : Value} (ha : a = fillA l 0 vs a0) (h : (l.all fun o => !(o.dst == some d)) = true) (tb : a0.tmps[d]? = some v) : a.tmps[d]? = some v := by
  subst ha; rw [fillA_base0 h]; exact tb
open Go.RowKit Go.Shelf Go.Maps
set_option maxHeartbeats 2000000 in
set_option maxRecDepth 100000 in
theorem ocast_any {s : Shop11} {B g kb n : Nat} {H P Q : Option Addr} {hn hc pn pc on oc : Nat} {x y z : Int} (hok : Ok11 s) (w : World) (L : LookK w B g kb H hn hc P pn pc Q on oc s) (M : MapC s w kb n) (hnn : n < 1000000) (hx : 0 ≤ x ∧ x ≤ 450) (hy : 0 ≤ y ∧ y ≤ 450) (hz : 0 ≤ z ∧ z ≤ 450) :
  Calls Tryz.prog 66 #[.pointer (some ⟨g, 0, none⟩), kv3 x y z] w fun e w' => e = .returned (kv3 (castI s 0 x) (castI s 1 y) (castI s 2 z)) ∧ Kept (fun k => k = kb) w w' ∧ MapC s w' kb (n + 1) := by
 obtain ⟨W, hW⟩ : ∃ W, (w.alloc (.cells #[.int .i64 x, .int .i64 y, .int .i64 z] 94)).alloc (.cells #[.int .i64 0, .int .i64 0, .int .i64 0] 94) = W := ⟨_, rfl⟩
 have N1 : Blk W w.heap.size 94 #[.int .i64 x, .int .i64 y, .int .i64 z] := by rw [← hW]; exact (Blk.new _ _ _ rfl).alloc _
 have R1 : Blk W (w.heap.size + 1) 94 #[.int .i64 0, .int .i64 0, .int .i64 0] := by rw [← hW]; exact Blk.new _ _ _ (by simp)
 have hBW : Below w.heap.size w W := by rw [← hW]; exact bl_alloc (bl_alloc (Below.refl _ _) _ (Nat.le_refl _)) _ (Nat.le_refl _)
 have L1 := L.bl hBW
 have M1 := M.bl hBW
 obtain ⟨U, uc, X1, S1, U1⟩ := L1.st
 have x0 := X1.cell 0
 have x1 := X1.cell 1
 have x4 := X1.cell 4
 have n0 := N1.cell 0
 have n1 := N1.cell 1
 have n2 := N1.cell 2
 have HL := Lib.hid L1
 have HM := Lib.hid M1
 obtain ⟨a, b, c, f, hlook, hres⟩ : ∃ (a b c : Int) (f : Bool), (∀ w' : World, w'.heap[kb]? = W.heap[kb]? → (Instr.lookup 136 (.map (some kb)) (kv3 x y z) true).run Tryz.prog w' = .ok (.tuple #[kv3 a b c, .bool f]) w') ∧ ((f = true ∧ a = castI s 0 x ∧ b = castI s 1 y ∧ c = castI s 2 z) ∨ (f = false ∧ a = 0 ∧ b = 0 ∧ c = 0)) := by
  rcases M1.look hx hy hz with h | h
  ·exact ⟨0, 0, 0, false, h, .inr ⟨rfl, rfl, rfl, rfl⟩⟩
  exact ⟨_, _, _, true, h, .inl ⟨rfl, rfl, rfl, rfl⟩⟩
 have HLK := Lib.hid hlook
 have HM0 := Lib.hid M
 clear L M L1 M1 hlook
 go_enter Tryz.func66, Tryz.ntmps66
 unfold kv3
 go_wp2_with fail
 clear hW x0 x1 x4 n0 n1 n2
 refine wp_region_inva (InvN W 94 #[.int .i64 0, .int .i64 0, .int .i64 0] #[.int .i64 a, .int .i64 b, .int .i64 c] (fun i => [.pointer (some ⟨g, 0, none⟩), .pointer (some ⟨g, 0, none⟩), .pointer (some ⟨g, 4, none⟩), .map (some kb), kv3 x y z, .tuple #[kv3 a b c, .bool f], .tuple #[kv3 a b c, .bool f], kv3 a b c, .bool f, undef, undef, .bool f].getD i undef) 9 10) (by kernel_rfl) (by kernel_rfl) (by kernel_rfl) InvN.zero ?step ?fin
 case step =>
  refine StepsI.cons ?_ (StepsI.cons ?_ (StepsI.cons ?_ (StepsI.cons ?_ (StepsI.cons ?_ (StepsI.cons ?_ (StepsI.cons ?_ (StepsI.cons ?_ (StepsI.cons ?_ (StepsI.cons ?_ (StepsI.cons ?_ (StepsI.cons ?_ StepsI.nil)))))))))))
  all_goals
   refine StepI.of ?_
   intro ls vs W2 K hI hl hw hU hK
   simp only [fillA, Act.put, List.setIfInBounds_toArray, List.set_cons_zero, List.set_cons_succ, Nat.zero_add, Nat.reduceAdd] at hK ⊢
   have hC := hI.1
  ·
   go_simp
   exact hK _ _ (hI.step (Below.refl _ _) (by decide) (by decide) rfl)
  ·
   have q0 : vs 0 = .pointer (some ⟨g, 0, none⟩) := hI.val (hw 0 (by simp [waits, Region.binds])) (by decide) (by decide)
   simp only [q0] at hK ⊢
   go_simp
   exact hK _ _ (hI.step (Below.refl _ _) (by decide) (by decide) rfl)
  ·
   have q1 : vs 1 = .pointer (some ⟨g, 0, none⟩) := hI.val (hw 1 (by simp [waits, Region.binds])) (by decide) (by decide)
   simp only [q1] at hK ⊢
   go_simp
   exact hK _ _ (hI.step (Below.refl _ _) (by decide) (by decide) rfl)
  ·
   have q2 : vs 2 = .pointer (some ⟨g, 4, none⟩) := hI.val (hw 2 (by simp [waits, Region.binds])) (by decide) (by decide)
   simp only [q2] at hK ⊢
   have z4 := (X1.bl hC).cell 4
   go_simp
   exact hK _ _ (hI.step (Below.refl _ _) (by decide) (by decide) rfl)
  ·
   have z0 := (N1.bl hC).cell 0
   have z1 := (N1.bl hC).cell 1
   have z2 := (N1.bl hC).cell 2
   go_simp
   exact hK _ _ (hI.step (Below.refl _ _) (by decide) (by decide) rfl)
  ·
   have q3 : vs 3 = .map (some kb) := hI.val (hw 3 (by simp [waits, Region.binds])) (by decide) (by decide)
   have q4 : vs 4 = kv3 x y z := hI.val (hw 4 (by simp [waits, Region.binds])) (by decide) (by decide)
   simp only [q3, q4] at hK ⊢
   have hlk := HLK.out W2 (hC.block kb HM.out.lt)
   unfold kv3 at *
   go_simp
   exact hK _ _ (hI.step (Below.refl _ _) (by decide) (by decide) rfl)
  ·
   have q5 : vs 5 = .tuple #[kv3 a b c, .bool f] := hI.val (hw 5 (by simp [waits, Region.binds])) (by decide) (by decide)
   simp only [q5] at hK ⊢
   unfold kv3 at *
   go_simp
   exact hK _ _ (hI.step (Below.refl _ _) (by decide) (by decide) rfl)
  ·
   have q6 : vs 6 = .tuple #[kv3 a b c, .bool f] := hI.val (hw 6 (by simp [waits, Region.binds])) (by decide) (by decide)
   simp only [q6] at hK ⊢
   unfold kv3 at *
   go_simp
   exact hK _ _ (hI.step (Below.refl _ _) (by decide) (by decide) rfl)
  ·
   have q6 : vs 6 = .tuple #[kv3 a b c, .bool f] := hI.val (hw 6 (by simp [waits, Region.binds])) (by decide) (by decide)
   simp only [q6] at hK ⊢
   unfold kv3 at *
   go_simp
   exact hK _ _ (hI.step (Below.refl _ _) (by decide) (by decide) rfl)
  ·
   have hs := (hU 10 _ rfl (by simp [waits, Region.binds])).1
   go_simp
   exact hK _ _ (hI.laid (by decide) hs)
  ·
   have q7 : vs 7 = kv3 a b c := hI.val (hw 7 (by simp [waits, Region.binds])) (by decide) (by decide)
   obtain ⟨q, q9, hq, hb⟩ := hI.blk (hw 9 (by simp [waits, Region.binds]))
   have h10 : ls 10 = false := hl
   rw [h10] at hb
   have hb : Blk W2 q 94 #[.int .i64 0, .int .i64 0, .int .i64 0] := hb
   simp only [q7, q9, kv3] at hK ⊢
   have z0 := hb.cell 0
   have z1 := hb.cell 1
   have z2 := hb.cell 2
   have fz0 := hb.frozen 0
   have fz1 := hb.frozen 1
   have fz2 := hb.frozen 2
   have hlq := hb.lt
   obtain ⟨VF, hVF⟩ : ∃ V, ((W2.setCell ⟨q, 0, none⟩ (.int .i64 a)).setCell ⟨q, 1, none⟩ (.int .i64 b)).setCell ⟨q, 2, none⟩ (.int .i64 c) = V := ⟨_, rfl⟩
   have BF : Below W.heap.size W VF := by rw [← hVF]; exact bl_set (bl_set (bl_set hC hq _) hq _) hq _
   have XF : Blk VF q 94 #[.int .i64 a, .int .i64 b, .int .i64 c] := by rw [← hVF]; exact ((hb.set_ 0 _).set_ 1 _).set_ 2 _
   go_simp
   exact hK undef _ (hI.store (by decide) (hw 9 (by simp [waits, Region.binds])) BF q9 hq XF)
  have q8 : vs 8 = .bool f := hI.val (hw 8 (by simp [waits, Region.binds])) (by decide) (by decide)
  simp only [q8] at hK ⊢
  go_simp
  exact hK _ _ (hI.step (Below.refl _ _) (by decide) (by decide) rfl)
 intro ls vs W2 hI hl
 have q8 : vs 8 = .bool f := hI.val (hl 8 (by decide)) (by decide) (by decide)
 have q11 : vs 11 = .bool f := hI.val (hl 11 (by decide)) (by decide) (by decide)
 obtain ⟨q, q9, hq, hb⟩ := hI.blk (hl 9 (by decide))
 rw [hl 10 (by decide)] at hb
 have hb : Blk W2 q 94 #[.int .i64 a, .int .i64 b, .int .i64 c] := hb
 have hC := hI.1
 simp only [fillA, Act.put, List.setIfInBounds_toArray, List.set_cons_zero, List.set_cons_succ, Nat.zero_add, Nat.reduceAdd, q8, q9, q11]
 obtain ⟨u0, hu0⟩ : ∃ v0, vs 0 = v0 := ⟨_, rfl⟩
 obtain ⟨u1, hu1⟩ : ∃ v0, vs 1 = v0 := ⟨_, rfl⟩
 obtain ⟨u2, hu2⟩ : ∃ v0, vs 2 = v0 := ⟨_, rfl⟩
 obtain ⟨u3, hu3⟩ : ∃ v0, vs 3 = v0 := ⟨_, rfl⟩
 obtain ⟨u4, hu4⟩ : ∃ v0, vs 4 = v0 := ⟨_, rfl⟩
 obtain ⟨u5, hu5⟩ : ∃ v0, vs 5 = v0 := ⟨_, rfl⟩
 obtain ⟨u6, hu6⟩ : ∃ v0, vs 6 = v0 := ⟨_, rfl⟩
 obtain ⟨u7, hu7⟩ : ∃ v0, vs 7 = v0 := ⟨_, rfl⟩
 rw [hu0, hu1, hu2, hu3, hu4, hu5, hu6, hu7]
 clear hu0 hu1 hu2 hu3 hu4 hu5 hu6 hu7 hI hl q8 q11 q9
 have HB2 : Hid (Below w.heap.size w W2) := bl_call hBW hC (Nat.le_refl _)
 have hs1 : w.heap.size + 1 < W.heap.size := R1.lt
 have RR := R1.bl hC
 rcases hres with ⟨rfl, ea, eb, ec⟩ | ⟨rfl, rfl, rfl, rfl⟩
 ·have b0 := hb.cell 0
  have b1 := hb.cell 1
  have b2 := hb.cell 2
  have r0 := RR.cell 0
  have r1 := RR.cell 1
  have r2 := RR.cell 2
  have fr0 := RR.frozen 0
  have fr1 := RR.frozen 1
  have fr2 := RR.frozen 2
  have hlr := RR.lt
  obtain ⟨VF, hVF⟩ : ∃ V, ((W2.setCell ⟨w.heap.size + 1, 0, none⟩ (.int .i64 a)).setCell ⟨w.heap.size + 1, 1, none⟩ (.int .i64 b)).setCell ⟨w.heap.size + 1, 2, none⟩ (.int .i64 c) = V := ⟨_, rfl⟩
  have XF : Blk VF (w.heap.size + 1) 94 #[.int .i64 a, .int .i64 b, .int .i64 c] := by rw [← hVF]; exact ((RR.set_ 0 _).set_ 1 _).set_ 2 _
  have BF : Below w.heap.size w VF := by rw [← hVF]; exact bl_set (bl_set (bl_set HB2.out (Nat.le_succ _) _) (Nat.le_succ _) _) (Nat.le_succ _) _
  have v0 := XF.cell 0
  have v1 := XF.cell 1
  have v2 := XF.cell 2
  have HMF : Hid (MapC s VF kb (n + 1)) := (HM0.out.bl BF).mono (Nat.le_succ _)
  have HE : Hid (kv3 a b c = kv3 (castI s 0 x) (castI s 1 y) (castI s 2 z)) := by rw [Hid, ea, eb, ec]
  clear hb RR ea eb ec
  go_simp
  go_wp2
  exact bodyPost_ret (by simp [results, Tryz.results66, go_sem, v0, v1, v2]; rfl) rfl ⟨congrArg Ending.returned HE.out, Kept.of_bl BF, HMF.out⟩
 have HCP : Hid (∀ (k : Nat) (nm : List UInt8) (a z y : Int), s.parts[k]? = some ⟨nm, a, z, y⟩ → (1 ≤ a ∧ a ≤ 10) ∧ 0 ≤ y ∧ y ≤ 50) := by
  intro k nm a z y hx
  obtain ⟨p1, p2, p3⟩ := hok.parts _ (List.mem_of_getElem? hx)
  exact ⟨p1, p3⟩
 have hpl := S1.ps.len
 have hp3 := hok.np
 have hle := S1.ps.le
 have HPL := Lib.hid hpl
 have hp3' : pn ≤ 3 := by omega
 have HPS : Hid (∀ V, Below W.heap.size W V → Parts (fun _ => True) V P pn s.parts) := fun V hB => (S1.ps.mono PartR.good (fun _ _ => trivial)).keep PartR.good (Keeps.below hB)
 have HN1 := Lib.hid N1
 have HX1 := Lib.hid X1
 have HQ := Lib.hid hb
 have HVAL : Hid (∀ k, k < 3 → 0 ≤ [x, y, z].getD k 0 ∧ [x, y, z].getD k 0 ≤ 450) := by
  intro k hk
  rcases (show k = 0 ∨ k = 1 ∨ k = 2 by omega) with rfl | rfl | rfl
  ·exact hx
  ·exact hy
  exact hz
 have HX := Lib.hid hx
 have HY := Lib.hid hy
 have HZ := Lib.hid hz
 have z1 := (X1.bl hC).cell 1
 clear hb RR hx hy hz hpl hp3 S1 X1 N1 U1
 go_simp
 go_wp2_with fail
 clear z1
 go_loopw [7, 8, 26] (fun _ _ i wr => ∃ k : Nat, k ≤ pn ∧ i = .int .i64 k ∧ Hid (Below W.heap.size W wr) ∧ Hid (Blk wr q 94 (rowC 3 (fun j => .int .i64 (if j < k then castI s j ([x, y, z].getD j 0) else 0))))) (fun _ _ i _ => pn - (intOf i).toNat)
 case atStart => exact ⟨0, Nat.zero_le _, rfl, hC, HQ.out⟩
 case round =>
  obtain ⟨wo, hwo⟩ : ∃ V, V = wr := ⟨_, rfl⟩
  rw [← hwo] at hrel ⊢
  clear hwo
  obtain ⟨k, hk, rfl, HB, HR⟩ := hrel
  by_cases hlt : k < pn
  ·have hki : (k : Int) < pn := by omega
   have hk3 : k < 3 := by omega
   have hk3i : (k : Int) < 3 := by omega
   obtain ⟨b, off, nm, pa, pz, py, rfl, hbb, hc0, hc1, hc2, hc3, hs, Hx⟩ := Parts.get (HPS.out wo HB.out) hlt
   obtain ⟨q1, q2⟩ := HCP.out k _ pa pz py Hx.out
   obtain ⟨v, hv⟩ : ∃ v, [x, y, z].getD k 0 = v := ⟨_, rfl⟩
   have hvb := HVAL.out k hk3
   rw [hv] at hvb
   have hcn : wo.cell? ⟨w.heap.size, k, none⟩ = some (.int .i64 v) := by
    rw [(HN1.out.bl HB.out).cell k, ← hv]
    rcases (show k = 0 ∨ k = 1 ∨ k = 2 by omega) with rfl | rfl | rfl <;> rfl
   have HCI : Hid (castI s k v = (max 0 (v - py + pa - 1)).tdiv pa) := by
    rw [Hid, castI, if_pos (by rw [HPL.out]; exact hlt), getD_of Hx.out]; rfl
   have fq := HR.out.frozen k
   have cq := HR.out.row hk3
   have hql := HR.out.lt
   obtain ⟨d1, hd1⟩ : ∃ d, v - py = d := ⟨_, rfl⟩
   obtain ⟨d2, hd2⟩ : ∃ d, d1 + pa = d := ⟨_, rfl⟩
   obtain ⟨d3, hd3⟩ : ∃ d, d2 - 1 = d := ⟨_, rfl⟩
   have w1 : IntKind.i64.wrap d1 = d1 := by rw [IntKind.wrap_i64]; omega
   have w2 : IntKind.i64.wrap d2 = d2 := by rw [IntKind.wrap_i64]; omega
   have w3 : IntKind.i64.wrap d3 = d3 := by rw [IntKind.wrap_i64]; omega
   have hpz : ¬ pa = 0 := by omega
   obtain ⟨V, hV⟩ : ∃ V, wo.alloc (.cells #[.string nm, .int .i64 pa, .int .i64 pz, .int .i64 py] 58) = V := ⟨_, rfl⟩
   have XV : Blk V wo.heap.size 58 #[.string nm, .int .i64 pa, .int .i64 pz, .int .i64 py] := by rw [← hV]; exact Blk.new _ _ _ rfl
   have HBV : Hid (Below W.heap.size W V) := by rw [Hid, ← hV]; exact bl_alloc HB.out _ (Nat.le_refl _)
   have HRV : Hid (Blk V q 94 (rowC 3 (fun j => .int .i64 (if j < k then castI s j ([x, y, z].getD j 0) else 0)))) := by rw [Hid, ← hV]; exact HR.out.alloc _
   have v1 := XV.cell 1
   have v3 := XV.cell 3
   have hcn2 : V.cell? ⟨w.heap.size, k, none⟩ = some (.int .i64 v) := by rw [← hV]; exact oldc hcn
   have fq2 := HRV.out.frozen k
   have cq2 := HRV.out.row hk3
   have hql2 := HRV.out.lt
   go_wp2_with fail
   clear hc0 hc1 hc2 hc3 hcn fq cq hql hV
   go_still_tail 16, (by kernel_rfl)
   go_wp2
   go_roundw
   case rel =>
    refine ⟨k + 1, by omega, by go_num, (bl_set HBV.out hq _).drew, ?_⟩
    refine Blk.rowEq (HRV.out.rowSet k _).drew fun j hj => ?_
    by_cases e : j = k
    ·subst e
     rw [if_pos rfl, if_pos (Nat.lt_succ_self _), hv, HCI.out, hd1, hd2, hd3, Int.tdiv_eq_ediv_of_nonneg (by omega)]
    rw [if_neg e]
    by_cases e2 : j < k
    ·rw [if_pos e2, if_pos (by omega)]
    rw [if_neg e2, if_neg (by omega)]
   case measure => simp [intOf]; omega
  obtain rfl : k = pn := by omega
  obtain ⟨c0, hc0⟩ : ∃ c, castI s 0 x = c := ⟨_, rfl⟩
  obtain ⟨c1, hc1⟩ : ∃ c, castI s 1 y = c := ⟨_, rfl⟩
  obtain ⟨c2, hc2⟩ : ∃ c, castI s 2 z = c := ⟨_, rfl⟩
  have XQ : Blk wo q 94 #[.int .i64 c0, .int .i64 c1, .int .i64 c2] := by
   have h0 : ∀ j, j < 3 → (if j < k then castI s j ([x, y, z].getD j 0) else 0) = [c0, c1, c2].getD j 0 := by
    intro j hj
    have h1 : (if j < k then castI s j ([x, y, z].getD j 0) else 0) = castI s j ([x, y, z].getD j 0) := by
     by_cases e : j < k
     ·rw [if_pos e]
     rw [if_neg e, castI, if_neg (by rw [HPL.out]; exact e)]
    rw [h1]
    rcases (show j = 0 ∨ j = 1 ∨ j = 2 by omega) with rfl | rfl | rfl
    ·exact hc0
    ·exact hc1
    exact hc2
   exact Blk.rowEq (G := fun j => .int .i64 ([c0, c1, c2].getD j 0)) HR.out fun j hj => by rw [h0 j hj]
  have hbw : Below w.heap.size w wo.drew := (bl_call hBW HB.out (Nat.le_refl _)).drew
  obtain ⟨w', hrun, hM', hgr⟩ := (HM0.out.bl hbw).put hnn HX.out HY.out HZ.out
  rw [hc0, hc1, hc2] at hrun
  unfold kv3 at hrun
  have hkb : kb < w.heap.size := HM0.out.lt
  have hws : w.heap.size + 1 < wo.heap.size := by have := HB.out.size; omega
  have hqs := XQ.lt
  have RR : Blk w' (w.heap.size + 1) 94 #[.int .i64 0, .int .i64 0, .int .i64 0] := (R1.bl HB.out).drew.grown hgr (fun e => by injection e with e; omega)
  have QQ : Blk w' q 94 #[.int .i64 c0, .int .i64 c1, .int .i64 c2] := XQ.drew.grown hgr (fun e => by injection e with e; have := hBW.size; omega)
  obtain ⟨VF, hVF⟩ : ∃ V, ((w'.setCell ⟨w.heap.size + 1, 0, none⟩ (.int .i64 c0)).setCell ⟨w.heap.size + 1, 1, none⟩ (.int .i64 c1)).setCell ⟨w.heap.size + 1, 2, none⟩ (.int .i64 c2) = V := ⟨_, rfl⟩
  have XF : Blk VF (w.heap.size + 1) 94 #[.int .i64 c0, .int .i64 c1, .int .i64 c2] := by rw [← hVF]; exact ((RR.set_ 0 _).set_ 1 _).set_ 2 _
  have HKF : Hid (Kept (fun k => k = kb) w VF) := by
   have k1 : Kept (fun k => k = kb) w w' := (Kept.of_bl hbw).seq (Kept.grown (M := fun k => k = kb) hgr (fun k e => by injection e with e; exact e.symm)) (fun i _ h => h)
   have k2 : Kept (fun k => k = w.heap.size + 1) w' VF := by
    rw [← hVF]
    exact ((Kept.setCell (M := fun k => k = w.heap.size + 1) w' ⟨w.heap.size + 1, 0, none⟩ (.int .i64 c0) rfl).trans (Kept.setCell _ ⟨w.heap.size + 1, 1, none⟩ (.int .i64 c1) rfl)).trans (Kept.setCell _ ⟨w.heap.size + 1, 2, none⟩ (.int .i64 c2) rfl)
   exact k1.seq k2 (fun i hi h => by omega)
  have HMF : Hid (MapC s VF kb (n + 1)) := hM'.at (by
   rw [← hVF]
   exact ((Below.heap_setCell _ _ _ _ (by show kb ≠ w.heap.size + 1; omega)).trans (Below.heap_setCell _ _ _ _ (by show kb ≠ w.heap.size + 1; omega))).trans (Below.heap_setCell _ _ _ _ (by show kb ≠ w.heap.size + 1; omega)))
  have HE : Hid (kv3 c0 c1 c2 = kv3 (castI s 0 x) (castI s 1 y) (castI s 2 z)) := by rw [Hid, hc0, hc1, hc2]
  have z4 := (HX1.out.bl HB.out).cell 4
  have n0 := (HN1.out.bl HB.out).cell 0
  have n1 := (HN1.out.bl HB.out).cell 1
  have n2 := (HN1.out.bl HB.out).cell 2
  have b0 := XQ.cell 0
  have b1 := XQ.cell 1
  have b2 := XQ.cell 2
  have e0 := QQ.cell 0
  have e1 := QQ.cell 1
  have e2 := QQ.cell 2
  have r0 := RR.cell 0
  have r1 := RR.cell 1
  have r2 := RR.cell 2
  have fr0 := RR.frozen 0
  have fr1 := RR.frozen 1
  have fr2 := RR.frozen 2
  have hlr := RR.lt
  have v0 := XF.cell 0
  have v1 := XF.cell 1
  have v2 := XF.cell 2
  clear hc0 hc1 hc2 XQ RR QQ XF hgr hM' hbw hb
  go_wp2
  go_still_tail 6, (by kernel_rfl)
  go_wp2
  exact bodyPost_ret (by simp [results, Tryz.results66, go_sem, v0, v1, v2]; rfl) rfl ⟨congrArg Ending.returned HE.out, HKF.out, HMF.out⟩
end Go.Proofs.YtkpbchnggdnmaaaGreat
