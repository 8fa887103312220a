/- A part of the proof that TopLaid always answers true. -/
import Derived.Orders
import Derived.Test.YtdbfincinjoppaaGreatCRegion2
set_option linter.all false
namespace Go.Proofs.YtdbfincinjoppaaGreat
open Go.RowKit
def Fin2 (P : Program) (ops : Array Oper) (C : World → Prop) (E : Nat → Value → World → Prop) (Q : Exit → Act → World → Prop) (a0 : Act) (m : Nat) (o1 o2 : Oper) : Prop :=
 ∀ (vs : Nat → Value) (w : World), C w → (∀ i, i < m → E i (vs i) w) → (∀ i, m ≤ i → vs i = slot0 ops a0 i) →
  o1.wp P (fillA ops.toList 0 vs a0) w (fun a' w' => o2.wp P a' w' (fun a' w' => Q .normal a' w') Q) Q
theorem Fin2.fin {F : Fence} {r : Option Nat} (hF : F = { Fence.wide with round := r }) {n : Nat} {P : Program} {ops : Array Oper} {C : World → Prop} {E : Nat → Value → World → Prop} {Q : Exit → Act → World → Prop} {a0 : Act} {m : Nat} {o1 o2 : Oper}
  (hd : noDefB ops = true) (hm : ops.size = m + 2) (h1 : ops[m]? = some o1) (h2 : ops[m + 1]? = some o2) (g1 : o1.guard = none) (g2 : o2.guard = none) (h : Fin2 P ops C E Q a0 m o1 o2) : FinE F n P ops C E Q a0 m := by
 intro vs w hC hE hU
 have := h vs w hC hE hU
 rw [show ops.size - m = 2 by omega, show List.range' m 2 = [m, m + 1] from rfl, wpOpsIn_cons]
 unfold wpOpIn
 simp only [h1]
 rw [if_pos (by simp [Region.wanted, g1])]
 refine Oper.wpIn_of_wp hF (noDefB_sem hd h1) (Oper.wp_mono (fun a' w' hh => ?_) this)
 rw [wpOpsIn_cons]
 unfold wpOpIn
 simp only [h2]
 rw [if_pos (by simp [Region.wanted, g2])]
 exact Oper.wpIn_of_wp hF (noDefB_sem hd h2) hh
theorem wp_region_list2 {id : Nat} {P : Program} {ops : Array Oper} {Q : Exit → Act → World → Prop} {a0 : Act} {w0 : World} (C : World → Prop) (X : World → World → Prop) (full : List (Value → World → Prop)) {o1 o2 : Oper}
  (hP : P.follows .mixedOrders = true) (hd : noDefB ops = true) (hgood : goodB ops full.length = true) (hm : ops.size = full.length + 2) (h1 : ops[full.length]? = some o1) (h2 : ops[full.length + 1]? = some o2) (g1 : o1.guard = none) (g2 : o2.guard = none) (hC : C { w0 with drawn := w0.drawn + 1 })
  (stab : StabL C X full) (step : StepsL P ops C X full Q a0 (ops.toList.take full.length) full 0) (fin : Fin2 P ops C (envOf full) Q a0 full.length o1 o2) : (Code.region id ops true).wp P Q a0 w0 :=
 (wpIn_wide (n := 0)).1 (wpIn_region_env (r := none) rfl C X (envOf full) full.length hP hd hgood (by omega) hC (envOf_stab stab) (step.steps rfl) (fin.fin rfl hd hm h1 h2 g1 g2))
open Go.RowKit
def updB (ls : Nat → Bool) (j : Nat) : Nat → Bool := fun i => if i = j then true else ls i
def lsOf (listed : Array Bool) : Nat → Bool := fun i => listed.getD i false
def StepI (P : Program) (ops : Array Oper) (I : (Nat → Bool) → (Nat → Value) → World → Prop) (Q : Exit → Act → World → Prop) (a0 : Act) (j : Nat) (o : Oper) : Prop :=
 ∀ (ls : Nat → Bool) (vs : Nat → Value) (w : World), I ls vs w → ls j = false → (∀ i ∈ waits o, ls i = true) → (∀ (i : Nat) (o' : Oper), ops[i]? = some o' → j ∈ waits o' → ls i = false ∧ vs i = slot0 ops a0 i) → vs j = slot0 ops a0 j →
  if Region.wanted o (yielded ops (fillA ops.toList 0 vs a0).tmps) = true then
   o.wp P (fillA ops.toList 0 vs a0) w (fun a' w' => ∃ v, a' = (fillA ops.toList 0 vs a0).put o.dst v ∧ I (updB ls j) (updV vs j v) w') Q
  else I (updB ls j) (updV vs j undef) w
def FinI (F : Fence) (n : Nat) (P : Program) (ops : Array Oper) (I : (Nat → Bool) → (Nat → Value) → World → Prop) (Q : Exit → Act → World → Prop) (a0 : Act) (m : Nat) : Prop :=
 ∀ (ls : Nat → Bool) (vs : Nat → Value) (w : World), I ls vs w → (∀ i, i < m → ls i = true) → (∀ i, m ≤ i → vs i = slot0 ops a0 i) → wpOpsIn F n P ops Q (List.range' m (ops.size - m)) (fillA ops.toList 0 vs a0) w
theorem wpAnyIn_inv {F : Fence} {r : Option Nat} (hF : F = { Fence.wide with round := r }) {n : Nat} {P : Program} {ops : Array Oper} {I : (Nat → Bool) → (Nat → Value) → World → Prop} {Q : Exit → Act → World → Prop} {a0 : Act} {m : Nat}
  (hsem : ∀ (j : Nat) (o : Oper), ops[j]? = some o → ∀ ρ, o.semAt r ρ = execOp ρ o) (hgood : goodB ops m = true) (hm1 : m ≤ ops.size)
  (step : ∀ (j : Nat) (o : Oper), j < m → ops[j]? = some o → StepI P ops I Q a0 j o) (fin : FinI F n P ops I Q a0 m) :
  ∀ (fuel : Nat) (listed : Array Bool) (vs : Nat → Value) (w : World), listed.size = ops.size → listed.toList.count false = fuel →
   (∀ (j : Nat) (o : Oper), listed[j]? = some true → ops[j]? = some o → ∀ i, i ∈ waits o → listed[i]? = some true) →
   (∀ i : Nat, listed[i]? ≠ some true → vs i = slot0 ops a0 i) → (∀ i : Nat, m ≤ i → listed[i]? ≠ some true) → I (lsOf listed) vs w →
   wpAnyIn F n P .any ops Q fuel listed (fillA ops.toList 0 vs a0) w := by
 have lsT : ∀ (l : Array Bool) (i : Nat), l[i]? = some true → lsOf l i = true := fun l i h => by unfold lsOf; simp [Array.getD_eq_getD_getElem?, h]
 have lsF : ∀ (l : Array Bool) (i : Nat), l[i]? ≠ some true → lsOf l i = false := fun l i h => by
  unfold lsOf; rw [Array.getD_eq_getD_getElem?]
  cases hh : l[i]? with
  | none => rfl
  | some b => cases b with
   | false => rfl
   | true => exact absurd hh h
 simp only [goodB, Bool.and_eq_true, List.all_eq_true, List.mem_range, decide_eq_true_eq, Bool.or_eq_true, List.any_eq_true] at hgood
 obtain ⟨⟨⟨hg1, hg2⟩, hg3⟩, hg4⟩ := hgood
 have hold : ∀ (j : Nat) (o : Oper), ops[j]? = some o → ∀ i, i ∈ waits o → i < j := fun j o ho i hi => by
  have hj : j < ops.size := (Array.getElem?_eq_some_iff.1 ho).1
  have := hg1 j hj
  rw [ho] at this
  simp only [Option.map_some, Option.getD_some, List.all_eq_true, decide_eq_true_eq] at this
  exact this i hi
 have hchain : ∀ (i : Nat) (o : Oper), m ≤ i → ops[i + 1]? = some o → i ∈ waits o := fun i o hmi ho => by
  have hi := (Array.getElem?_eq_some_iff.1 ho).1
  rcases hg4 i (by omega) with h | h
  ·omega
  rw [ho] at h; simpa using h
 have hdst := nodup_dst hg2
 intro fuel
 have done : ∀ (fuel : Nat) (listed : Array Bool) (vs : Nat → Value) (w : World), listed.size = ops.size → listed.toList.count false = fuel → (∀ i : Nat, i < m → listed[i]? = some true) →
   (∀ i : Nat, listed[i]? ≠ some true → vs i = slot0 ops a0 i) → (∀ i : Nat, m ≤ i → listed[i]? ≠ some true) → I (lsOf listed) vs w →
   wpAnyIn F n P .any ops Q fuel listed (fillA ops.toList 0 vs a0) w := by
  intro fuel listed vs w hsz hc hl hU hm hI
  have hfuel : fuel = ops.size - m := by
   have h1 : listed.toList = List.replicate m true ++ List.replicate (ops.size - m) false := by
    apply List.ext_getElem?
    intro i
    rw [Array.getElem?_toList]
    by_cases him : i < m
    ·rw [hl i him, List.getElem?_append_left (by simpa using him), List.getElem?_replicate, if_pos him]
    rw [List.getElem?_append_right (by simp; omega), List.getElem?_replicate, List.length_replicate]
    by_cases his : i < ops.size
    ·rw [if_pos (by omega)]
     have := hm i (by omega)
     have hl' : i < listed.size := by omega
     rw [Array.getElem?_eq_getElem hl'] at this ⊢
     cases hb : listed[i] with
     | true => rw [hb] at this; exact absurd rfl this
     | false => rfl
    rw [if_neg (by omega), Array.getElem?_eq_none (by omega)]
   rw [h1, List.count_append, List.count_replicate, List.count_replicate] at hc
   simp at hc
   omega
  subst hfuel
  exact wpAnyIn_chain hold hchain (ops.size - m) m listed _ w (Nat.le_refl _) (by omega) hsz hl hm (fin (lsOf listed) vs w hI (fun i hi => lsT _ i (hl i hi)) (fun i hi => hU i (hm i hi)))
 induction fuel with
 | zero =>
  intro listed vs w hsz hc hcl hU hm hI
  refine done 0 listed vs w hsz hc (fun i hi => ?_) hU hm hI
  have := count_zero hc (i := i) (by rw [Array.length_toList, hsz]; omega)
  simpa using this
 | succ fuel ih =>
  intro listed vs w hsz hc hcl hU hm hI
  by_cases hl : ∀ i : Nat, i < m → listed[i]? = some true
  ·exact done _ listed vs w hsz hc hl hU hm hI
  obtain ⟨i0, hi0, hn0⟩ : ∃ i, i < m ∧ listed[i]? ≠ some true := Classical.byContradiction fun h => hl fun i hi => Classical.byContradiction fun h2 => h ⟨i, hi, h2⟩
  have hfalse : ∀ i : Nat, i < ops.size → listed[i]? ≠ some true → listed[i]? = some false := fun i hi h => by
   have hl' : i < listed.size := by omega
   rw [Array.getElem?_eq_getElem hl'] at h ⊢
   cases hb : listed[i] with
   | true => rw [hb] at h; exact absurd rfl h
   | false => rfl
  refine ⟨fun h0 => ?_, fun j hj => ?_⟩
  ·exfalso
   have key : ∀ i : Nat, i < ops.size → listed[i]? = some true := by
    intro i
    induction i using Nat.strongRecOn with
    | _ i ihi =>
     intro hi
     refine Classical.byContradiction fun h => ?_
     have hmem : i ∈ Region.ready .any ops listed := mem_ready.2 ⟨getD_tf.2 (hfalse i hi h), ops[i], Array.getElem?_eq_getElem hi, fun e he hbind => getD_ft.2 (by
      have := hold i _ (Array.getElem?_eq_getElem hi) _ (mem_waits.2 ⟨e, he, hbind, rfl⟩)
      exact ihi _ this (by omega))⟩
     rw [h0] at hmem
     cases hmem
   exact hn0 (key i0 (by omega))
  obtain ⟨hjf, o, ho, hw⟩ := mem_ready.1 hj
  rw [getD_tf] at hjf
  have hjs : j < ops.size := (Array.getElem?_eq_some_iff.1 ho).1
  have hwl : ∀ i, i ∈ waits o → listed[i]? = some true := fun i hi => by
   obtain ⟨e, he, hb, rfl⟩ := mem_waits.1 hi
   exact getD_ft.1 (hw e he hb)
  have hjm : j < m := by
   rcases Nat.lt_trichotomy j m with h1 | h1 | h1
   ·exact h1
   ·exfalso
    subst h1
    have hothers : ∀ (d i : Nat), i < j → i + d = j → listed[i]? = some true := by
     intro d
     induction d using Nat.strongRecOn with
     | _ d ihd =>
      intro i hi hid
      rcases hg3 i hi with h | ⟨k, hk, hk2⟩
      ·omega
      obtain ⟨hik, hkw⟩ := hk2
      have hks : k < ops.size := by omega
      rw [Array.getElem?_eq_getElem hks] at hkw
      simp only [Option.map_some, Option.getD_some, List.contains_iff_mem] at hkw
      rcases Nat.lt_or_ge k j with h2 | h2
      ·have := ihd (j - k) (by omega) k h2 (by omega)
       exact hcl k _ this (Array.getElem?_eq_getElem hks) i hkw
      have hkj : k = j := by omega
      subst hkj
      rw [Array.getElem?_eq_getElem hks] at ho
      cases ho
      exact hwl i hkw
    exact hn0 (hothers (j - i0) i0 hi0 (by omega))
   exfalso
   obtain ⟨i, rfl⟩ : ∃ i, j = i + 1 := ⟨j - 1, by omega⟩
   exact hm i (by omega) (hwl i (hchain i o (by omega) ho))
  have hcount : (listed.setIfInBounds j true).toList.count false = fuel := by
   have h1 : listed.toList[j]? = some false := by simpa using hjf
   have := count_set h1
   rw [Array.toList_setIfInBounds]
   omega
  have hsz' : (listed.setIfInBounds j true).size = ops.size := by simpa using hsz
  have hget' : ∀ i : Nat, (listed.setIfInBounds j true)[i]? = if i = j then some true else listed[i]? := fun i => by
   rw [Array.getElem?_setIfInBounds]
   by_cases h : j = i
   ·subst h; rw [if_pos rfl, if_pos rfl, if_pos (by omega)]
   rw [if_neg h, if_neg (fun e => h e.symm)]
  have hput : ∀ v, (fillA ops.toList 0 vs a0).put o.dst v = fillA ops.toList 0 (updV vs j v) a0 := fun v => by
   have := fillA_put ops.toList 0 vs a0 j o v (by simpa using ho) (fun i o' hij hi => hdst i j o o' hi (by simpa using ho) hij)
   simpa using this
  have hvj : vs j = slot0 ops a0 j := hU j (by rw [hjf]; simp)
  have hst := step j o hjm ho (lsOf listed) vs w hI (lsF _ j (by rw [hjf]; simp)) (fun i hi => lsT _ i (hwl i hi)) (fun i o' ho' hi => by
   have hni : listed[i]? ≠ some true := fun hl => by
    have := hcl i o' hl ho' j hi
    rw [hjf] at this; cases this
   exact ⟨lsF _ i hni, hU i hni⟩) hvj
  have hup : lsOf (listed.setIfInBounds j true) = updB (lsOf listed) j := by
   funext i
   unfold lsOf updB
   rw [Array.getD_eq_getD_getElem?, hget']
   by_cases h : i = j
   ·rw [if_pos h, if_pos h]; rfl
   rw [if_neg h, if_neg h, ← Array.getD_eq_getD_getElem?]
  have hnext : ∀ v w', I (updB (lsOf listed) j) (updV vs j v) w' → wpAnyIn F n P .any ops Q fuel (listed.setIfInBounds j true) ((fillA ops.toList 0 vs a0).put o.dst v) w' := fun v w' hI' => by
   rw [hput]
   refine ih _ _ _ hsz' hcount ?_ ?_ ?_ (by rw [hup]; exact hI')
   ·intro i o' hi ho' k hk
    rw [hget'] at hi ⊢
    by_cases hkj : k = j
    ·rw [if_pos hkj]
    rw [if_neg hkj]
    by_cases hij : i = j
    ·subst hij
     rw [ho] at ho'; cases ho'
     exact hwl k hk
    rw [if_neg hij] at hi
    exact hcl i o' hi ho' k hk
   ·intro i hi
    rw [hget'] at hi
    by_cases hij : i = j
    ·rw [if_pos hij] at hi; exact absurd rfl hi
    rw [if_neg hij] at hi
    rw [show updV vs j v i = vs i by simp [updV, hij]]
    exact hU i hi
   intro i hi
   rw [hget', if_neg (by omega)]; exact hm i hi
  unfold wpOpIn
  simp only [ho]
  split
  ·rename_i hwant
   simp only [hwant, if_true] at hst
   refine Oper.wpIn_mono ?_ (Oper.wpIn_of_wp hF (hsem j o ho) hst)
   rintro a' w' ⟨v, rfl, hI'⟩
   exact hnext v w' hI'
  rename_i hwant
  simp only [hwant, if_false, Bool.false_eq_true] at hst
  exact ⟨fun f _ => by subst hF; trivial, hnext undef w hst⟩
theorem wp_region_inv {id : Nat} {P : Program} {ops : Array Oper} {Q : Exit → Act → World → Prop} {a0 : Act} {w0 : World} (I : (Nat → Bool) → (Nat → Value) → World → Prop) (m : Nat)
  (hP : P.follows .mixedOrders = true) (hd : noDefB ops = true) (hgood : goodB ops m = true) (hm1 : m ≤ ops.size) (hI : I (fun _ => false) (slot0 ops a0) { w0 with drawn := w0.drawn + 1 })
  (step : ∀ (j : Nat) (o : Oper), j < m → ops[j]? = some o → StepI P ops I Q a0 j o) (fin : FinI Fence.wide 0 P ops I Q a0 m) : (Code.region id ops true).wp P Q a0 w0 := by
 refine (wpIn_wide (n := 0)).1 (wpIn_region_any hP ?_)
 have h := wpAnyIn_inv (F := Fence.wide) (r := none) rfl (n := 0) (P := P) (ops := ops) (I := I) (Q := Q) (a0 := a0) (m := m) (fun j o ho ρ => noDefB_sem hd ho ρ) hgood hm1 step fin
  ops.size (Array.replicate ops.size false) (slot0 ops a0) { w0 with drawn := w0.drawn + 1 } (by simp) (by simp) ?_ (fun _ _ => rfl) ?_ ?_
 ·rw [fillA_slot0] at h; exact h
 ·intro j o hj; rw [Array.getElem?_replicate] at hj; split at hj <;> cases hj
 ·intro i _ hj; rw [Array.getElem?_replicate] at hj; split at hj <;> cases hj
 have : lsOf (Array.replicate ops.size false) = fun _ => false := by
  funext i
  unfold lsOf
  rw [Array.getD_eq_getD_getElem?, Array.getElem?_replicate]
  split <;> rfl
 rw [this]; exact hI
open Go.RowKit
section
variable {P : Program} {ops : Array Oper} {I : (Nat → Bool) → (Nat → Value) → World → Prop} {Q : Exit → Act → World → Prop} {a0 : Act}
theorem StepI.of {j : Nat} {o : Oper} (h : ∀ (ls : Nat → Bool) (vs : Nat → Value) (w : World) (K : Act → World → Prop), I ls vs w → ls j = false → (∀ i ∈ waits o, ls i = true) → (∀ (i : Nat) (o' : Oper), ops[i]? = some o' → j ∈ waits o' → ls i = false ∧ vs i = slot0 ops a0 i) →
  (∀ v w', I (updB ls j) (updV vs j v) w' → K ((fillA ops.toList 0 vs a0).put o.dst v) w') →
  if Region.wanted o (yielded ops (fillA ops.toList 0 vs a0).tmps) = true then o.wp P (fillA ops.toList 0 vs a0) w K Q else I (updB ls j) (updV vs j undef) w) : StepI P ops I Q a0 j o :=
 fun ls vs w hI hl hw hU _ => h ls vs w _ hI hl hw hU (fun v _ hI' => ⟨v, rfl, hI'⟩)
def StepsI (P : Program) (ops : Array Oper) (I : (Nat → Bool) → (Nat → Value) → World → Prop) (Q : Exit → Act → World → Prop) (a0 : Act) : List Oper → Nat → Prop
 | [], _ => True
 | o :: l, k => StepI P ops I Q a0 k o ∧ StepsI P ops I Q a0 l (k + 1)
theorem StepsI.nil {k : Nat} : StepsI P ops I Q a0 [] k := trivial
theorem StepsI.cons {o : Oper} {l : List Oper} {k : Nat} (h : StepI P ops I Q a0 k o) (hl : StepsI P ops I Q a0 l (k + 1)) : StepsI P ops I Q a0 (o :: l) k := ⟨h, hl⟩
theorem StepsI.get : ∀ {l : List Oper} {k : Nat}, StepsI P ops I Q a0 l k → ∀ {j : Nat} {o : Oper}, l[j]? = some o → StepI P ops I Q a0 (k + j) o := by
 intro l
 induction l with
 | nil => intro k _ j o h; simp at h
 | cons x l ih =>
  intro k h j o hj
  cases j with
  | zero => simp at hj; subst hj; exact h.1
  | succ j => have := ih h.2 (j := j) (o := o) (by simpa using hj); rwa [show k + 1 + j = k + (j + 1) by omega] at this
end
def InvE (B : Nat) (W0 : World) (E : Nat → Bool → Value → World → Prop) (j0 : Nat) (ls : Nat → Bool) (vs : Nat → Value) (w : World) : Prop :=
 Below B W0 w ∧ ∀ i, ls i = true → E i (ls j0) (vs i) w
theorem InvE.step {B : Nat} {W0 : World} {E : Nat → Bool → Value → World → Prop} {j0 j : Nat} {ls : Nat → Bool} {vs : Nat → Value} {w w' : World} {v : Value} (stab : ∀ i b v w w', Below w.heap.size w w' → E i b v w → E i b v w') (hI : InvE B W0 E j0 ls vs w) (hb : Below w.heap.size w w') (hB : B ≤ w.heap.size) (hj : j ≠ j0) (hv : E j (ls j0) v w') : InvE B W0 E j0 (updB ls j) (updV vs j v) w' := by
 refine ⟨hI.1.trans (hb.mono hB), fun i hi => ?_⟩
 have h0 : updB ls j j0 = ls j0 := by unfold updB; rw [if_neg (fun e => hj e.symm)]
 rw [h0]
 by_cases hij : i = j
 ·subst hij; simpa [updV] using hv
 have : updB ls j i = ls i := by unfold updB; rw [if_neg hij]
 rw [this] at hi
 rw [show updV vs j v i = vs i by simp [updV, hij]]
 exact stab _ _ _ _ _ hb (hI.2 i hi)
theorem wp_region_invs {id : Nat} {P : Program} {ops : Array Oper} {Q : Exit → Act → World → Prop} {a0 : Act} {w0 : World} (I : (Nat → Bool) → (Nat → Value) → World → Prop) (m : Nat)
  (hP : P.follows .mixedOrders = true) (hd : noDefB ops = true) (hgood : goodB ops m = true) (hm : ops.size = m + 1) (hI : I (fun _ => false) (slot0 ops a0) { w0 with drawn := w0.drawn + 1 })
  (step : StepsI P ops I Q a0 (ops.toList.take m) 0) {o : Oper} (ho : ops[m]? = some o) (hg : o.guard = none)
  (fin : ∀ (ls : Nat → Bool) (vs : Nat → Value) (w : World), I ls vs w → (∀ i, i < m → ls i = true) → (∀ i, m ≤ i → vs i = slot0 ops a0 i) → o.wp P (fillA ops.toList 0 vs a0) w (fun a' w' => Q .normal a' w') Q) : (Code.region id ops true).wp P Q a0 w0 := by
 refine wp_region_inv I m hP hd hgood (by omega) hI (fun j o' hj ho' => ?_) (fun ls vs w hI hl hU => ?_)
 ·have := step.get (j := j) (o := o') (by rw [List.getElem?_take, if_pos hj]; simpa using ho')
  rwa [Nat.zero_add] at this
 rw [show ops.size - m = 1 by omega, List.range'_one, wpOpsIn_cons]
 unfold wpOpIn
 simp only [ho]
 rw [if_pos (by simp [Region.wanted, hg])]
 exact Oper.wpIn_of_wp rfl (noDefB_sem hd ho) (fin ls vs w hI hl hU)
open Go.RowKit
end Go.Proofs.YtdbfincinjoppaaGreat
