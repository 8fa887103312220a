/- A part of the proof that TopWorn always answers true. -/
import Derived.Orders
import Derived.WalkKit
import Derived.Test.YtdbfincinjoppabGreatDoorCRegion
set_option linter.all false
namespace Go.Proofs.YtdbfincinjoppabGreatDoor
open Go.RowKit
section
variable (P : Program) (ops : Array Oper) (C : Bool → World → Prop) (X : Bool → World → World → Prop) (full : List (Value → World → Prop)) (Q : Exit → Act → World → Prop) (a0 : Act) (j0 : Nat)
end
section
variable {P : Program} {ops : Array Oper} {C : Bool → World → Prop} {X : Bool → World → World → Prop} {full : List (Value → World → Prop)} {Q : Exit → Act → World → Prop} {a0 : Act} {j0 : Nat}
end
open Go.RowKit
open Go.RowKit
def updB (ls : Nat → Bool) (j : Nat) : Nat → Bool := fun i => if i = j then true else ls i
def lsOf (listed : Array Bool) : Nat → Bool := fun i => listed.getD i false
def StepI (P : Program) (ops : Array Oper) (I : (Nat → Bool) → (Nat → Value) → World → Prop) (Q : Exit → Act → World → Prop) (a0 : Act) (j : Nat) (o : Oper) : Prop :=
 ∀ (ls : Nat → Bool) (vs : Nat → Value) (w : World), I ls vs w → ls j = false → (∀ i ∈ waits o, ls i = true) → (∀ (i : Nat) (o' : Oper), ops[i]? = some o' → j ∈ waits o' → ls i = false ∧ vs i = slot0 ops a0 i) → vs j = slot0 ops a0 j →
  if Region.wanted o (yielded ops (fillA ops.toList 0 vs a0).tmps) = true then
   o.wp P (fillA ops.toList 0 vs a0) w (fun a' w' => ∃ v, a' = (fillA ops.toList 0 vs a0).put o.dst v ∧ I (updB ls j) (updV vs j v) w') Q
  else I (updB ls j) (updV vs j undef) w
def FinI (F : Fence) (n : Nat) (P : Program) (ops : Array Oper) (I : (Nat → Bool) → (Nat → Value) → World → Prop) (Q : Exit → Act → World → Prop) (a0 : Act) (m : Nat) : Prop :=
 ∀ (ls : Nat → Bool) (vs : Nat → Value) (w : World), I ls vs w → (∀ i, i < m → ls i = true) → (∀ i, m ≤ i → vs i = slot0 ops a0 i) → wpOpsIn F n P ops Q (List.range' m (ops.size - m)) (fillA ops.toList 0 vs a0) w
theorem wpAnyIn_inv {F : Fence} {r : Option Nat} (hF : F = { Fence.wide with round := r }) {n : Nat} {P : Program} {ops : Array Oper} {I : (Nat → Bool) → (Nat → Value) → World → Prop} {Q : Exit → Act → World → Prop} {a0 : Act} {m : Nat}
  (hsem : ∀ (j : Nat) (o : Oper), ops[j]? = some o → ∀ ρ, o.semAt r ρ = execOp ρ o) (hgood : goodB ops m = true) (hm1 : m ≤ ops.size)
  (step : ∀ (j : Nat) (o : Oper), j < m → ops[j]? = some o → StepI P ops I Q a0 j o) (fin : FinI F n P ops I Q a0 m) :
  ∀ (fuel : Nat) (listed : Array Bool) (vs : Nat → Value) (w : World), listed.size = ops.size → listed.toList.count false = fuel →
   (∀ (j : Nat) (o : Oper), listed[j]? = some true → ops[j]? = some o → ∀ i, i ∈ waits o → listed[i]? = some true) →
   (∀ i : Nat, listed[i]? ≠ some true → vs i = slot0 ops a0 i) → (∀ i : Nat, m ≤ i → listed[i]? ≠ some true) → I (lsOf listed) vs w →
   wpAnyIn F n P .any ops Q fuel listed (fillA ops.toList 0 vs a0) w := by
 have lsT : ∀ (l : Array Bool) (i : Nat), l[i]? = some true → lsOf l i = true := fun l i h => by unfold lsOf; simp [Array.getD_eq_getD_getElem?, h]
 have lsF : ∀ (l : Array Bool) (i : Nat), l[i]? ≠ some true → lsOf l i = false := fun l i h => by
  unfold lsOf; rw [Array.getD_eq_getD_getElem?]
  cases hh : l[i]? with
  | none => rfl
  | some b => cases b with
   | false => rfl
   | true => exact absurd hh h
 simp only [goodB, Bool.and_eq_true, List.all_eq_true, List.mem_range, decide_eq_true_eq, Bool.or_eq_true, List.any_eq_true] at hgood
 obtain ⟨⟨⟨hg1, hg2⟩, hg3⟩, hg4⟩ := hgood
 have hold : ∀ (j : Nat) (o : Oper), ops[j]? = some o → ∀ i, i ∈ waits o → i < j := fun j o ho i hi => by
  have hj : j < ops.size := (Array.getElem?_eq_some_iff.1 ho).1
  have := hg1 j hj
  rw [ho] at this
  simp only [Option.map_some, Option.getD_some, List.all_eq_true, decide_eq_true_eq] at this
  exact this i hi
 have hchain : ∀ (i : Nat) (o : Oper), m ≤ i → ops[i + 1]? = some o → i ∈ waits o := fun i o hmi ho => by
  have hi := (Array.getElem?_eq_some_iff.1 ho).1
  rcases hg4 i (by omega) with h | h
  ·omega
  rw [ho] at h; simpa using h
 have hdst := nodup_dst hg2
 intro fuel
 have done : ∀ (fuel : Nat) (listed : Array Bool) (vs : Nat → Value) (w : World), listed.size = ops.size → listed.toList.count false = fuel → (∀ i : Nat, i < m → listed[i]? = some true) →
   (∀ i : Nat, listed[i]? ≠ some true → vs i = slot0 ops a0 i) → (∀ i : Nat, m ≤ i → listed[i]? ≠ some true) → I (lsOf listed) vs w →
   wpAnyIn F n P .any ops Q fuel listed (fillA ops.toList 0 vs a0) w := by
  intro fuel listed vs w hsz hc hl hU hm hI
  have hfuel : fuel = ops.size - m := by
   have h1 : listed.toList = List.replicate m true ++ List.replicate (ops.size - m) false := by
    apply List.ext_getElem?
    intro i
    rw [Array.getElem?_toList]
    by_cases him : i < m
    ·rw [hl i him, List.getElem?_append_left (by simpa using him), List.getElem?_replicate, if_pos him]
    rw [List.getElem?_append_right (by simp; omega), List.getElem?_replicate, List.length_replicate]
    by_cases his : i < ops.size
    ·rw [if_pos (by omega)]
     have := hm i (by omega)
     have hl' : i < listed.size := by omega
     rw [Array.getElem?_eq_getElem hl'] at this ⊢
     cases hb : listed[i] with
     | true => rw [hb] at this; exact absurd rfl this
     | false => rfl
    rw [if_neg (by omega), Array.getElem?_eq_none (by omega)]
   rw [h1, List.count_append, List.count_replicate, List.count_replicate] at hc
   simp at hc
   omega
  subst hfuel
  exact wpAnyIn_chain hold hchain (ops.size - m) m listed _ w (Nat.le_refl _) (by omega) hsz hl hm (fin (lsOf listed) vs w hI (fun i hi => lsT _ i (hl i hi)) (fun i hi => hU i (hm i hi)))
 induction fuel with
 | zero =>
  intro listed vs w hsz hc hcl hU hm hI
  refine done 0 listed vs w hsz hc (fun i hi => ?_) hU hm hI
  have := count_zero hc (i := i) (by rw [Array.length_toList, hsz]; omega)
  simpa using this
 | succ fuel ih =>
  intro listed vs w hsz hc hcl hU hm hI
  by_cases hl : ∀ i : Nat, i < m → listed[i]? = some true
  ·exact done _ listed vs w hsz hc hl hU hm hI
  obtain ⟨i0, hi0, hn0⟩ : ∃ i, i < m ∧ listed[i]? ≠ some true := Classical.byContradiction fun h => hl fun i hi => Classical.byContradiction fun h2 => h ⟨i, hi, h2⟩
  have hfalse : ∀ i : Nat, i < ops.size → listed[i]? ≠ some true → listed[i]? = some false := fun i hi h => by
   have hl' : i < listed.size := by omega
   rw [Array.getElem?_eq_getElem hl'] at h ⊢
   cases hb : listed[i] with
   | true => rw [hb] at h; exact absurd rfl h
   | false => rfl
  refine ⟨fun h0 => ?_, fun j hj => ?_⟩
  ·exfalso
   have key : ∀ i : Nat, i < ops.size → listed[i]? = some true := by
    intro i
    induction i using Nat.strongRecOn with
    | _ i ihi =>
     intro hi
     refine Classical.byContradiction fun h => ?_
     have hmem : i ∈ Region.ready .any ops listed := mem_ready.2 ⟨getD_tf.2 (hfalse i hi h), ops[i], Array.getElem?_eq_getElem hi, fun e he hbind => getD_ft.2 (by
      have := hold i _ (Array.getElem?_eq_getElem hi) _ (mem_waits.2 ⟨e, he, hbind, rfl⟩)
      exact ihi _ this (by omega))⟩
     rw [h0] at hmem
     cases hmem
   exact hn0 (key i0 (by omega))
  obtain ⟨hjf, o, ho, hw⟩ := mem_ready.1 hj
  rw [getD_tf] at hjf
  have hjs : j < ops.size := (Array.getElem?_eq_some_iff.1 ho).1
  have hwl : ∀ i, i ∈ waits o → listed[i]? = some true := fun i hi => by
   obtain ⟨e, he, hb, rfl⟩ := mem_waits.1 hi
   exact getD_ft.1 (hw e he hb)
  have hjm : j < m := by
   rcases Nat.lt_trichotomy j m with h1 | h1 | h1
   ·exact h1
   ·exfalso
    subst h1
    have hothers : ∀ (d i : Nat), i < j → i + d = j → listed[i]? = some true := by
     intro d
     induction d using Nat.strongRecOn with
     | _ d ihd =>
      intro i hi hid
      rcases hg3 i hi with h | ⟨k, hk, hk2⟩
      ·omega
      obtain ⟨hik, hkw⟩ := hk2
      have hks : k < ops.size := by omega
      rw [Array.getElem?_eq_getElem hks] at hkw
      simp only [Option.map_some, Option.getD_some, List.contains_iff_mem] at hkw
      rcases Nat.lt_or_ge k j with h2 | h2
      ·have := ihd (j - k) (by omega) k h2 (by omega)
       exact hcl k _ this (Array.getElem?_eq_getElem hks) i hkw
      have hkj : k = j := by omega
      subst hkj
      rw [Array.getElem?_eq_getElem hks] at ho
      cases ho
      exact hwl i hkw
    exact hn0 (hothers (j - i0) i0 hi0 (by omega))
   exfalso
   obtain ⟨i, rfl⟩ : ∃ i, j = i + 1 := ⟨j - 1, by omega⟩
   exact hm i (by omega) (hwl i (hchain i o (by omega) ho))
  have hcount : (listed.setIfInBounds j true).toList.count false = fuel := by
   have h1 : listed.toList[j]? = some false := by simpa using hjf
   have := count_set h1
   rw [Array.toList_setIfInBounds]
   omega
  have hsz' : (listed.setIfInBounds j true).size = ops.size := by simpa using hsz
  have hget' : ∀ i : Nat, (listed.setIfInBounds j true)[i]? = if i = j then some true else listed[i]? := fun i => by
   rw [Array.getElem?_setIfInBounds]
   by_cases h : j = i
   ·subst h; rw [if_pos rfl, if_pos rfl, if_pos (by omega)]
   rw [if_neg h, if_neg (fun e => h e.symm)]
  have hput : ∀ v, (fillA ops.toList 0 vs a0).put o.dst v = fillA ops.toList 0 (updV vs j v) a0 := fun v => by
   have := fillA_put ops.toList 0 vs a0 j o v (by simpa using ho) (fun i o' hij hi => hdst i j o o' hi (by simpa using ho) hij)
   simpa using this
  have hvj : vs j = slot0 ops a0 j := hU j (by rw [hjf]; simp)
  have hst := step j o hjm ho (lsOf listed) vs w hI (lsF _ j (by rw [hjf]; simp)) (fun i hi => lsT _ i (hwl i hi)) (fun i o' ho' hi => by
   have hni : listed[i]? ≠ some true := fun hl => by
    have := hcl i o' hl ho' j hi
    rw [hjf] at this; cases this
   exact ⟨lsF _ i hni, hU i hni⟩) hvj
  have hup : lsOf (listed.setIfInBounds j true) = updB (lsOf listed) j := by
   funext i
   unfold lsOf updB
   rw [Array.getD_eq_getD_getElem?, hget']
   by_cases h : i = j
   ·rw [if_pos h, if_pos h]; rfl
   rw [if_neg h, if_neg h, ← Array.getD_eq_getD_getElem?]
  have hnext : ∀ v w', I (updB (lsOf listed) j) (updV vs j v) w' → wpAnyIn F n P .any ops Q fuel (listed.setIfInBounds j true) ((fillA ops.toList 0 vs a0).put o.dst v) w' := fun v w' hI' => by
   rw [hput]
   refine ih _ _ _ hsz' hcount ?_ ?_ ?_ (by rw [hup]; exact hI')
   ·intro i o' hi ho' k hk
    rw [hget'] at hi ⊢
    by_cases hkj : k = j
    ·rw [if_pos hkj]
    rw [if_neg hkj]
    by_cases hij : i = j
    ·subst hij
     rw [ho] at ho'; cases ho'
     exact hwl k hk
    rw [if_neg hij] at hi
    exact hcl i o' hi ho' k hk
   ·intro i hi
    rw [hget'] at hi
    by_cases hij : i = j
    ·rw [if_pos hij] at hi; exact absurd rfl hi
    rw [if_neg hij] at hi
    rw [show updV vs j v i = vs i by simp [updV, hij]]
    exact hU i hi
   intro i hi
   rw [hget', if_neg (by omega)]; exact hm i hi
  unfold wpOpIn
  simp only [ho]
  split
  ·rename_i hwant
   simp only [hwant, if_true] at hst
   refine Oper.wpIn_mono ?_ (Oper.wpIn_of_wp hF (hsem j o ho) hst)
   rintro a' w' ⟨v, rfl, hI'⟩
   exact hnext v w' hI'
  rename_i hwant
  simp only [hwant, if_false, Bool.false_eq_true] at hst
  exact ⟨fun f _ => by subst hF; trivial, hnext undef w hst⟩
theorem wp_region_inv {id : Nat} {P : Program} {ops : Array Oper} {Q : Exit → Act → World → Prop} {a0 : Act} {w0 : World} (I : (Nat → Bool) → (Nat → Value) → World → Prop) (m : Nat)
  (hP : P.follows .mixedOrders = true) (hd : noDefB ops = true) (hgood : goodB ops m = true) (hm1 : m ≤ ops.size) (hI : I (fun _ => false) (slot0 ops a0) { w0 with drawn := w0.drawn + 1 })
  (step : ∀ (j : Nat) (o : Oper), j < m → ops[j]? = some o → StepI P ops I Q a0 j o) (fin : FinI Fence.wide 0 P ops I Q a0 m) : (Code.region id ops true).wp P Q a0 w0 := by
 refine (wpIn_wide (n := 0)).1 (wpIn_region_any hP ?_)
 have h := wpAnyIn_inv (F := Fence.wide) (r := none) rfl (n := 0) (P := P) (ops := ops) (I := I) (Q := Q) (a0 := a0) (m := m) (fun j o ho ρ => noDefB_sem hd ho ρ) hgood hm1 step fin
  ops.size (Array.replicate ops.size false) (slot0 ops a0) { w0 with drawn := w0.drawn + 1 } (by simp) (by simp) ?_ (fun _ _ => rfl) ?_ ?_
 ·rw [fillA_slot0] at h; exact h
 ·intro j o hj; rw [Array.getElem?_replicate] at hj; split at hj <;> cases hj
 ·intro i _ hj; rw [Array.getElem?_replicate] at hj; split at hj <;> cases hj
 have : lsOf (Array.replicate ops.size false) = fun _ => false := by
  funext i
  unfold lsOf
  rw [Array.getD_eq_getD_getElem?, Array.getElem?_replicate]
  split <;> rfl
 rw [this]; exact hI
open Go.RowKit
section
variable {P : Program} {ops : Array Oper} {I : (Nat → Bool) → (Nat → Value) → World → Prop} {Q : Exit → Act → World → Prop} {a0 : Act}
theorem StepI.of {j : Nat} {o : Oper} (h : ∀ (ls : Nat → Bool) (vs : Nat → Value) (w : World) (K : Act → World → Prop), I ls vs w → ls j = false → (∀ i ∈ waits o, ls i = true) → (∀ (i : Nat) (o' : Oper), ops[i]? = some o' → j ∈ waits o' → ls i = false ∧ vs i = slot0 ops a0 i) →
  (∀ v w', I (updB ls j) (updV vs j v) w' → K ((fillA ops.toList 0 vs a0).put o.dst v) w') →
  if Region.wanted o (yielded ops (fillA ops.toList 0 vs a0).tmps) = true then o.wp P (fillA ops.toList 0 vs a0) w K Q else I (updB ls j) (updV vs j undef) w) : StepI P ops I Q a0 j o :=
 fun ls vs w hI hl hw hU _ => h ls vs w _ hI hl hw hU (fun v _ hI' => ⟨v, rfl, hI'⟩)
def StepsI (P : Program) (ops : Array Oper) (I : (Nat → Bool) → (Nat → Value) → World → Prop) (Q : Exit → Act → World → Prop) (a0 : Act) : List Oper → Nat → Prop
 | [], _ => True
 | o :: l, k => StepI P ops I Q a0 k o ∧ StepsI P ops I Q a0 l (k + 1)
theorem StepsI.nil {k : Nat} : StepsI P ops I Q a0 [] k := trivial
theorem StepsI.cons {o : Oper} {l : List Oper} {k : Nat} (h : StepI P ops I Q a0 k o) (hl : StepsI P ops I Q a0 l (k + 1)) : StepsI P ops I Q a0 (o :: l) k := ⟨h, hl⟩
theorem StepsI.get : ∀ {l : List Oper} {k : Nat}, StepsI P ops I Q a0 l k → ∀ {j : Nat} {o : Oper}, l[j]? = some o → StepI P ops I Q a0 (k + j) o := by
 intro l
 induction l with
 | nil => intro k _ j o h; simp at h
 | cons x l ih =>
  intro k h j o hj
  cases j with
  | zero => simp at hj; subst hj; exact h.1
  | succ j => have := ih h.2 (j := j) (o := o) (by simpa using hj); rwa [show k + 1 + j = k + (j + 1) by omega] at this
end
def InvE (B : Nat) (W0 : World) (E : Nat → Bool → Value → World → Prop) (j0 : Nat) (ls : Nat → Bool) (vs : Nat → Value) (w : World) : Prop :=
 Below B W0 w ∧ ∀ i, ls i = true → E i (ls j0) (vs i) w
theorem InvE.step {B : Nat} {W0 : World} {E : Nat → Bool → Value → World → Prop} {j0 j : Nat} {ls : Nat → Bool} {vs : Nat → Value} {w w' : World} {v : Value} (stab : ∀ i b v w w', Below w.heap.size w w' → E i b v w → E i b v w') (hI : InvE B W0 E j0 ls vs w) (hb : Below w.heap.size w w') (hB : B ≤ w.heap.size) (hj : j ≠ j0) (hv : E j (ls j0) v w') : InvE B W0 E j0 (updB ls j) (updV vs j v) w' := by
 refine ⟨hI.1.trans (hb.mono hB), fun i hi => ?_⟩
 have h0 : updB ls j j0 = ls j0 := by unfold updB; rw [if_neg (fun e => hj e.symm)]
 rw [h0]
 by_cases hij : i = j
 ·subst hij; simpa [updV] using hv
 have : updB ls j i = ls i := by unfold updB; rw [if_neg hij]
 rw [this] at hi
 rw [show updV vs j v i = vs i by simp [updV, hij]]
 exact stab _ _ _ _ _ hb (hI.2 i hi)
theorem wp_region_invs {id : Nat} {P : Program} {ops : Array Oper} {Q : Exit → Act → World → Prop} {a0 : Act} {w0 : World} (I : (Nat → Bool) → (Nat → Value) → World → Prop) (m : Nat)
  (hP : P.follows .mixedOrders = true) (hd : noDefB ops = true) (hgood : goodB ops m = true) (hm : ops.size = m + 1) (hI : I (fun _ => false) (slot0 ops a0) { w0 with drawn := w0.drawn + 1 })
  (step : StepsI P ops I Q a0 (ops.toList.take m) 0) {o : Oper} (ho : ops[m]? = some o) (hg : o.guard = none)
  (fin : ∀ (ls : Nat → Bool) (vs : Nat → Value) (w : World), I ls vs w → (∀ i, i < m → ls i = true) → (∀ i, m ≤ i → vs i = slot0 ops a0 i) → o.wp P (fillA ops.toList 0 vs a0) w (fun a' w' => Q .normal a' w') Q) : (Code.region id ops true).wp P Q a0 w0 := by
 refine wp_region_inv I m hP hd hgood (by omega) hI (fun j o' hj ho' => ?_) (fun ls vs w hI hl hU => ?_)
 ·have := step.get (j := j) (o := o') (by rw [List.getElem?_take, if_pos hj]; simpa using ho')
  rwa [Nat.zero_add] at this
 rw [show ops.size - m = 1 by omega, List.range'_one, wpOpsIn_cons]
 unfold wpOpIn
 simp only [ho]
 rw [if_pos (by simp [Region.wanted, hg])]
 exact Oper.wpIn_of_wp rfl (noDefB_sem hd ho) (fin ls vs w hI hl hU)
open Go.RowKit
def slotB : List Oper → Nat → Nat → Bool
 | [], _, _ => false
 | o :: l, d, 0 => (o.dst == some d) && l.all fun o' => !(o'.dst == some d)
 | _ :: l, d, j + 1 => slotB l d j
theorem put_other (a : Act) (x : Option Tmp) (d : Nat) (v : Value) (h : (x == some d) = false) : (a.put x v).tmps[d]? = a.tmps[d]? := by
 cases x with
 | none => rfl
 | some t =>
  have hne : t ≠ d := fun e => by rw [e] at h; simp at h
  simp only [Act.put]
  rw [Array.getElem?_setIfInBounds, if_neg hne]
theorem fillA_base (l : List Oper) : ∀ (k : Nat) (vs : Nat → Value) (a : Act) (d : Nat), (l.all fun o => !(o.dst == some d)) = true → (fillA l k vs a).tmps[d]? = a.tmps[d]? := by
 induction l with
 | nil => intros; rfl
 | cons o l ih =>
  intro k vs a d h
  rw [List.all_cons, Bool.and_eq_true] at h
  rw [fillA, ih (k + 1) vs _ d h.2, put_other a o.dst d _ (by simpa using h.1)]
theorem fillA_get (l : List Oper) : ∀ (k : Nat) (vs : Nat → Value) (a : Act) (d j : Nat), slotB l d j = true → d < a.tmps.size → (fillA l k vs a).tmps[d]? = some (vs (k + j)) := by
 induction l with
 | nil => intro k vs a d j h; cases h
 | cons o l ih =>
  intro k vs a d j h hd
  cases j with
  | zero =>
   rw [slotB, Bool.and_eq_true] at h
   rw [fillA, fillA_base l _ _ _ _ h.2]
   have e : o.dst = some d := by simpa using h.1
   rw [e]
   simp [Act.put, Array.getElem?_setIfInBounds, hd]
  | succ j =>
   rw [fillA, ih (k + 1) vs _ d j h (by cases o.dst <;> simpa [Act.put] using hd), show k + 1 + j = k + (j + 1) by omega]
theorem fillA_get0 {l : List Oper} {vs : Nat → Value} {a : Act} {d j : Nat} (h : slotB l d j = true) (hd : d < a.tmps.size) : (fillA l 0 vs a).tmps[d]? = some (vs j) := by
 have := fillA_get l 0 vs a d j h hd
 rwa [Nat.zero_add] at this
theorem fillA_base0 {l : List Oper} {vs : Nat → Value} {a : Act} {d : Nat} (h : (l.all fun o => !(o.dst == some d)) = true) : (fillA l 0 vs a).tmps[d]? = a.tmps[d]? := fillA_base l 0 vs a d h
theorem fillA_defers (l : List Oper) : ∀ (k : Nat) (vs : Nat → Value) (a : Act), (fillA l k vs a).defers = a.defers := by
 induction l with
 | nil => intros; rfl
 | cons o l ih => intro k vs a; rw [fillA, ih]; cases o.dst <;> rfl
theorem Fin1.none {P : Program} {ops : Array Oper} {C : World → Prop} {E : Nat → Value → World → Prop} {Q : Exit → Act → World → Prop} {a0 : Act} {m : Nat} (hm : ops.size ≤ m)
  (h : ∀ (vs : Nat → Value) (w : World) (a1 : Act), C w → (∀ i, i < m → E i (vs i) w) → a1 = fillA ops.toList 0 vs a0 → Q .normal a1 w) : Fin1 P ops C E Q a0 m := by
 intro vs w hC hE hU
 rw [Array.getElem?_eq_none hm]
 exact h vs w _ hC hE rfl
theorem wp_frame {c : Code} {P : Program} {Q : Exit → Act → World → Prop} {a : Act} {w : World} (h : ∀ a0 : Act, a0.tmps.size = a.tmps.size → (∀ i : Nat, a0.tmps[i]? = a.tmps[i]?) → a0.defers = a.defers → c.wp P Q a0 w) : c.wp P Q a w := h a rfl (fun _ => rfl) rfl
theorem fg {l : List Oper} {vs : Nat → Value} {a a0 : Act} {N : Nat} (d j : Nat) (ha : a = fillA l 0 vs a0) (hs : a0.tmps.size = N) (h : slotB l d j = true) (hd : d < N) : a.tmps[d]? = some (vs j) := by
  subst ha; exact fillA_get0 h (by rw [hs]; exact hd)
theorem fq {l : List Oper} {vs : Nat → Value} {a a0 : Act} {N : Nat} {v : Value} (d j : Nat) (ha : a = fillA l 0 vs a0) (hs : a0.tmps.size = N) (h : slotB l d j = true) (hd : d < N) (hq : vs j = v) : a.tmps[d]? = some v := by
  rw [fg d j ha hs h hd, show vs j = v from hq]
theorem fb {l : List Oper} {vs : Nat → Value} {a a0 : Act} {d : Nat} {v : Value} (ha : a = fillA l 0 vs a0) (h : (l.all fun o => !(o.dst == some d)) = true) (tb : a0.tmps[d]? = some v) : a.tmps[d]? = some v := by
  subst ha; rw [fillA_base0 h]; exact tb
open Go.RowKit
def letter (b : UInt8) : Bool := decide ((97 : Int) ≤ b.toNat) && decide ((b.toNat : Int) ≤ 122)
def okByte (b : UInt8) : Bool := letter b || (decide ((48 : Int) ≤ b.toNat) && decide ((b.toNat : Int) ≤ 57)) || decide ((b.toNat : Int) = 45)
def isName (s : List UInt8) : Bool :=
 decide (1 ≤ s.length) && decide (s.length ≤ 16) && letter (s.getD 0 0) && s.all okByte
theorem okByte_iff (b : UInt8) : okByte b = true ↔ ((97 : Int) ≤ b.toNat ∧ (b.toNat : Int) ≤ 122) ∨ ((48 : Int) ≤ b.toNat ∧ (b.toNat : Int) ≤ 57) ∨ (b.toNat : Int) = 45 := by
 simp [okByte, letter, or_assoc]
theorem okByte_false (b : UInt8) (h : ¬ (((97 : Int) ≤ b.toNat ∧ (b.toNat : Int) ≤ 122) ∨ ((48 : Int) ≤ b.toNat ∧ (b.toNat : Int) ≤ 57) ∨ (b.toNat : Int) = 45)) : okByte b = false := by
 rw [← Bool.not_eq_true, okByte_iff]; exact h
theorem byte_get (s : ByteArray) (k : Nat) (h : k < s.size) : s.data.toList[k]? = some s[k] := by
 rw [List.getElem?_eq_getElem (by simpa using h)]; rfl
theorem name_no (s : ByteArray) (k : Nat) (h : k < s.size) (hb : okByte s[k] = false) : isName s.data.toList = false := by
 have : s.data.toList.all okByte = false := by
  rw [← Bool.not_eq_true]
  intro ha
  rw [List.all_eq_true.1 ha s[k] (List.mem_of_getElem? (byte_get s k h))] at hb
  cases hb
 simp [isName, this]
theorem letter_iff (b : UInt8) : letter b = true ↔ ((97 : Int) ≤ b.toNat ∧ (b.toNat : Int) ≤ 122) := by simp [letter]
theorem getD_zero (s : ByteArray) (h : 0 < s.size) : s.data.toList.getD 0 0 = s[0] := by
 rw [List.getD_eq_getElem?_getD, byte_get s 0 h]; rfl
theorem name_first (s : ByteArray) (h : 0 < s.size) (hb : letter s[0] = false) : isName s.data.toList = false := by
 unfold isName; rw [getD_zero s h, hb]; simp
theorem name_yes (s : ByteArray) (h : 0 < s.size) (h16 : s.size ≤ 16) (hl : letter s[0] = true) (ha : (s.data.toList.take s.size).all okByte = true) : isName s.data.toList = true := by
 have e : s.data.toList.length = s.size := by simp
 rw [List.take_of_length_le (by omega)] at ha
 unfold isName
 rw [getD_zero s h, hl, ha, e]
 simp; omega
theorem byte_cases (b : UInt8) :
  (okByte b = false ∧ (((b.toNat : Int) < 45 ∧ ((b.toNat : Int) != 45) = true) ∨ ((46 : Int) ≤ b.toNat ∧ (b.toNat : Int) ≤ 47 ∧ ((b.toNat : Int) != 45) = true) ∨ ((58 : Int) ≤ b.toNat ∧ (b.toNat : Int) ≤ 96 ∧ ((b.toNat : Int) != 45) = true) ∨ ((123 : Int) ≤ b.toNat ∧ ((b.toNat : Int) != 45) = true))) ∨
  (okByte b = true ∧ (((45 : Int) ≤ b.toNat ∧ (b.toNat : Int) ≤ 45 ∧ ((b.toNat : Int) != 45) = false) ∨ ((48 : Int) ≤ b.toNat ∧ (b.toNat : Int) ≤ 57) ∨ ((97 : Int) ≤ b.toNat ∧ (b.toNat : Int) ≤ 122))) := by
 have hn : ∀ n : Int, n ≠ 45 → (n != 45) = true := fun n h => by simpa using h
 by_cases h : ((97 : Int) ≤ b.toNat ∧ (b.toNat : Int) ≤ 122) ∨ ((48 : Int) ≤ b.toNat ∧ (b.toNat : Int) ≤ 57) ∨ (b.toNat : Int) = 45
 ·refine .inr ⟨(okByte_iff b).2 h, ?_⟩
  rcases h with h | h | h
  ·exact .inr (.inr h)
  ·exact .inr (.inl h)
  exact .inl ⟨by omega, by omega, by rw [h]; rfl⟩
 refine .inl ⟨okByte_false b h, ?_⟩
 have h45 := hn b.toNat (by omega)
 by_cases h1 : (b.toNat : Int) < 45
 ·exact .inl ⟨h1, h45⟩
 by_cases h2 : (b.toNat : Int) ≤ 47
 ·exact .inr (.inl ⟨by omega, h2, h45⟩)
 by_cases h3 : (b.toNat : Int) ≤ 96
 ·exact .inr (.inr (.inl ⟨by omega, h3, h45⟩))
 exact .inr (.inr (.inr ⟨by omega, h45⟩))
theorem take_all (s : ByteArray) (k : Nat) (h : k < s.size) (ha : (s.data.toList.take k).all okByte = true) (hb : okByte s[k] = true) : (s.data.toList.take (k + 1)).all okByte = true := by
 rw [List.take_add_one, byte_get s k h, List.all_append, ha]; simp [hb]
theorem name_long (s : ByteArray) (h : ¬ (1 ≤ s.size ∧ s.size ≤ 16)) : isName s.data.toList = false := by
 have e : s.data.toList.length = s.size := by simp
 unfold isName; rw [e]; simp; omega
def place : List (List UInt8) → List UInt8 → Int
 | [], _ => -1
 | x :: l, s => if x = s then 0 else if place l s < 0 then -1 else place l s + 1
theorem place_none {l : List (List UInt8)} {s : List UInt8} (h : s ∉ l) : place l s = -1 := by
 induction l with
 | nil => rfl
 | cons x l ih =>
  simp only [List.mem_cons, not_or] at h
  rw [place, if_neg (fun e => h.1 e.symm), ih h.2]; simp
theorem place_found {l : List (List UInt8)} {s : List UInt8} {k : Nat} (h : l[k]? = some s) (hn : s ∉ l.take k) : place l s = k := by
 induction l generalizing k with
 | nil => simp at h
 | cons x l ih =>
  cases k with
  | zero => simp at h; simp [place, h]
  | succ k =>
   simp only [List.take_succ_cons, List.mem_cons, not_or] at hn
   have := ih (k := k) (by simpa using h) hn.2
   rw [place, if_neg (fun e => hn.1 e.symm), this, if_neg (by omega)]
   omega
theorem place_neg (l : List (List UInt8)) (s : List UInt8) : place l s < 0 ↔ s ∉ l := by
 constructor
 ·intro h hm
  obtain ⟨k, hk⟩ := List.getElem?_of_mem hm
  induction l generalizing k with
  | nil => simp at hm
  | cons x l ih =>
   rw [place] at h
   split at h
   ·omega
   rename_i hne
   split at h
   ·rename_i h2
    have hm' : s ∈ l := by
     rcases List.mem_cons.1 hm with e | e
     ·exact absurd e.symm hne
     exact e
    obtain ⟨k', hk'⟩ := List.getElem?_of_mem hm'
    exact ih h2 hm' k' hk'
   omega
 intro h; rw [place_none h]; omega
def fresh (s : List UInt8) (l : List (List UInt8)) : Int := if isName s then (if s ∈ l then 5 else 0) else 6
structure Span where
 lo : Int
 hi : Int
 deriving DecidableEq
def inB (n lo hi : Int) : Bool := decide (lo ≤ n) && decide (n ≤ hi)
def spreadGo (lo hi : Int) : List Span → Int → Int
 | [], e => e
 | s :: l, e => if !inB s.lo lo hi || !inB s.hi lo hi then 7 else spreadGo lo hi l (if s.lo > s.hi then 2 else e)
def spread (l : List Span) (lo hi : Int) : Int := spreadGo lo hi l 0
def rangeE (s : Span) (lo hi : Int) : Int := if !inB s.lo lo hi || !inB s.hi lo hi then 7 else if s.lo > s.hi then 2 else 0
end Go.Proofs.YtdbfincinjoppabGreatDoor
