/- A part of the proof that TopWorn always answers true. -/
import Derived.OrdersIn
import Derived.Test.YtdbfincinjoppabGreatDoorCBase
import Derived.Test.YtdbfincinjoppabGreatDoorCIter
set_option linter.all false
namespace Go.Proofs.YtdbfincinjoppabGreatDoor
open Go.RowKit
def fillA : List Oper → Nat → (Nat → Value) → Act → Act
 | [], _, _, a => a
 | o :: l, k, vs, a => fillA l (k + 1) vs (a.put o.dst (vs k))
def updV (vs : Nat → Value) (m : Nat) (v : Value) : Nat → Value := fun i => if i = m then v else vs i
theorem put_put (a : Act) (d : Option Tmp) (x y : Value) : (a.put d x).put d y = a.put d y := by
 cases d with
 | none => rfl
 | some d => simp [Act.put]
theorem fillA_comm (l : List Oper) : ∀ (k : Nat) (vs : Nat → Value) (a : Act) (d : Option Tmp) (v : Value), (∀ (i : Nat) (o' : Oper), l[i]? = some o' → ∀ t, d = some t → o'.dst ≠ some t) → (fillA l k vs a).put d v = fillA l k vs (a.put d v) := by
 induction l with
 | nil => intros; rfl
 | cons o l ih =>
  intro k vs a d v h
  rw [fillA, fillA, ih (k + 1) vs _ d v (fun i o' hi => h (i + 1) o' (by simpa using hi))]
  rw [Act.put_comm a (x := o.dst) (y := d) (vs k) v (fun t ht hd => h 0 o (by simp) t hd ht)]
theorem fillA_congr (l : List Oper) : ∀ (k : Nat) (vs us : Nat → Value) (a : Act), (∀ i, k ≤ i → vs i = us i) → fillA l k vs a = fillA l k us a := by
 induction l with
 | nil => intros; rfl
 | cons o l ih => intro k vs us a h; rw [fillA, fillA, h k (Nat.le_refl _)]; exact ih _ _ _ _ (fun i hi => h i (by omega))
theorem fillA_put (l : List Oper) : ∀ (k : Nat) (vs : Nat → Value) (a : Act) (j : Nat) (o : Oper) (v : Value), l[j]? = some o →
  (∀ (i : Nat) (o' : Oper), i ≠ j → l[i]? = some o' → ∀ d, o.dst = some d → o'.dst ≠ some d) → (fillA l k vs a).put o.dst v = fillA l k (updV vs (k + j) v) a := by
 induction l with
 | nil => intro k vs a j o v h; simp at h
 | cons o1 l ih =>
  intro k vs a j o v h hd
  cases j with
  | zero =>
   simp at h; subst h
   rw [fillA, fillA, fillA_comm l _ _ _ _ _ (fun i o' hi t ht => hd (i + 1) o' (by omega) (by simpa using hi) t ht), put_put]
   rw [show updV vs (k + 0) v k = v by simp [updV]]
   exact fillA_congr _ _ _ _ _ (fun i hi => by simp [updV]; omega)
  | succ j =>
   rw [fillA, fillA, ih (k + 1) vs _ j o v (by simpa using h) (fun i o' hij hi => hd (i + 1) o' (by omega) (by simpa using hi))]
   rw [show updV vs (k + (j + 1)) v k = vs k by simp [updV]]
   rw [show k + (j + 1) = k + 1 + j by omega]
def slot0 (ops : Array Oper) (a : Act) (i : Nat) : Value := (((ops[i]?).bind (·.dst)).bind (a.tmps[·]?)).getD undef
theorem put_same (a : Act) (d : Option Tmp) (v : Value) (h : ∀ t, d = some t → ∀ u, a.tmps[t]? = some u → u = v) : a.put d v = a := by
 cases d with
 | none => rfl
 | some t =>
  have h' := h t rfl
  unfold Act.put
  have : a.tmps.setIfInBounds t v = a.tmps := by
   apply Array.ext_getElem?
   intro i
   rw [Array.getElem?_setIfInBounds]
   split
   ·rename_i e
    subst e
    split
    ·rename_i hlt
     rw [Array.getElem?_eq_getElem hlt] at h' ⊢
     rw [h' _ rfl]
    rename_i hlt
    rw [Array.getElem?_eq_none (by omega)]
   rfl
  simp only [this]
theorem fillA_slot0 (ops : Array Oper) (a : Act) : fillA ops.toList 0 (slot0 ops a) a = a := by
 have key : ∀ (l : List Oper) (k : Nat), (∀ i : Nat, l[i]? = ops[k + i]?) → fillA l k (slot0 ops a) a = a := by
  intro l
  induction l with
  | nil => intros; rfl
  | cons o l ih =>
   intro k h
   have h0 : ops[k]? = some o := by simpa using (h 0).symm
   rw [fillA, put_same a o.dst _ (fun t ht u hu => by simp [slot0, h0, ht, hu])]
   exact ih (k + 1) (fun i => by rw [show k + 1 + i = k + (i + 1) by omega, ← h]; simp)
 exact key ops.toList 0 (fun i => by simp)
def waits (o : Oper) : List Nat := (o.after.toList.filter fun e => Region.binds .any e).map (·.on)
theorem mem_waits {o : Oper} {i : Nat} : i ∈ waits o ↔ ∃ e ∈ o.after, Region.binds .any e = true ∧ e.on = i := by
 simp [waits, and_assoc]
def goodB (ops : Array Oper) (m : Nat) : Bool :=
 ((List.range ops.size).all fun j => ((ops[j]?).map fun o => (waits o).all fun i => decide (i < j)).getD true) &&
 decide ((ops.toList.filterMap (·.dst)).Nodup) &&
 ((List.range m).all fun i => decide (ops.size ≤ m) || (List.range (m + 1)).any fun j => decide (i < j) && ((ops[j]?).map fun o => (waits o).contains i).getD false) &&
 ((List.range ops.size).all fun i => decide (i < m) || ((ops[i + 1]?).map fun o => (waits o).contains i).getD true)
theorem nodup_dst {l : List Oper} (h : (l.filterMap (·.dst)).Nodup) : ∀ (i j : Nat) (o o' : Oper), l[i]? = some o' → l[j]? = some o → i ≠ j → ∀ d, o.dst = some d → o'.dst ≠ some d := by
 induction l with
 | nil => intro i j o o' h; simp at h
 | cons x l ih =>
  have hl : (l.filterMap (·.dst)).Nodup := by
   cases hx : x.dst with
   | none => simpa [List.filterMap_cons, hx] using h
   | some d => rw [List.filterMap_cons, hx] at h; exact (List.nodup_cons.1 h).2
  have hne : ∀ (i : Nat) (o : Oper), l[i]? = some o → ∀ d, x.dst = some d → o.dst ≠ some d := by
   intro i o hi d hd he
   rw [List.filterMap_cons, hd] at h
   exact (List.nodup_cons.1 h).1 (List.mem_filterMap.2 ⟨o, List.mem_of_getElem? hi, he⟩)
  intro i j o o' hi hj hij d hd
  cases i with
  | zero =>
   cases j with
   | zero => exact absurd rfl hij
   | succ j =>
    simp at hi hj; subst hi
    intro he
    exact hne j o hj d he hd
  | succ i =>
   cases j with
   | zero =>
    simp at hi hj; subst hj
    exact hne i o' hi d hd
   | succ j => simp at hi hj; exact ih hl i j o o' hi hj (by omega) d hd
def StepE (P : Program) (ops : Array Oper) (C : World → Prop) (X : World → World → Prop) (E : Nat → Value → World → Prop) (Q : Exit → Act → World → Prop) (a0 : Act) (j : Nat) (o : Oper) : Prop :=
 ∀ (vs : Nat → Value) (w : World), C w → (∀ i ∈ waits o, E i (vs i) w) → (∀ (i : Nat) (o' : Oper), ops[i]? = some o' → j ∈ waits o' → vs i = slot0 ops a0 i) → vs j = slot0 ops a0 j →
  if Region.wanted o (yielded ops (fillA ops.toList 0 vs a0).tmps) = true then
   o.wp P (fillA ops.toList 0 vs a0) w (fun a' w' => ∃ v, a' = (fillA ops.toList 0 vs a0).put o.dst v ∧ C w' ∧ X w w' ∧ E j v w') Q
  else E j undef w
def StepsE (P : Program) (ops : Array Oper) (C : World → Prop) (X : World → World → Prop) (E : Nat → Value → World → Prop) (Q : Exit → Act → World → Prop) (a0 : Act) : List Oper → Nat → Prop
 | [], _ => True
 | o :: l, k => StepE P ops C X E Q a0 k o ∧ StepsE P ops C X E Q a0 l (k + 1)
theorem StepsE.get {P : Program} {ops : Array Oper} {C : World → Prop} {X : World → World → Prop} {E : Nat → Value → World → Prop} {Q : Exit → Act → World → Prop} {a0 : Act} : ∀ {l : List Oper} {k : Nat}, StepsE P ops C X E Q a0 l k → ∀ {j : Nat} {o : Oper}, l[j]? = some o → StepE P ops C X E Q a0 (k + j) o := by
 intro l
 induction l with
 | nil => intro k _ j o h; simp at h
 | cons x l ih =>
  intro k h j o hj
  cases j with
  | zero => simp at hj; subst hj; exact h.1
  | succ j => have := ih h.2 (j := j) (o := o) (by simpa using hj); rw [show k + (j + 1) = k + 1 + j by omega]; exact this
theorem count_set {l : List Bool} {i : Nat} (h : l[i]? = some false) : (l.set i true).count false + 1 = l.count false := by
 induction l generalizing i with
 | nil => simp at h
 | cons x l ih =>
  cases i with
  | zero => simp at h; subst h; simp
  | succ i => simp at h; simp only [List.set_cons_succ, List.count_cons]; have := ih h; omega
theorem count_zero {l : List Bool} (h : l.count false = 0) {i : Nat} (hi : i < l.length) : l[i]? = some true := by
 rw [List.count_eq_zero] at h
 rw [List.getElem?_eq_getElem hi]
 cases hb : l[i] with
 | true => rfl
 | false => exact absurd (hb ▸ List.getElem_mem hi) h
theorem rowsIn_any {F : Fence} {r : Option Nat} (hF : F = { Fence.wide with round := r }) {n : Nat} {P : Program} {row : String} {args : Array Value} {w : World} {R : Value → World → Prop} (h : Go.Rows P row args w R) : RowsIn F n P row args w R := by
 subst hF
 intro c cs _
 obtain ⟨v, w', hr, s⟩ := h c cs
 exact ⟨v, w', hr, stepsIn_wide.2 s⟩
theorem Oper.wpIn_of_wp {F : Fence} {r : Option Nat} (hF : F = { Fence.wide with round := r }) {n : Nat} {P : Program} {o : Oper} {a : Act} {w : World} {K : Act → World → Prop} {Q : Exit → Act → World → Prop}
  (hs : ∀ ρ, o.semAt r ρ = execOp ρ o) (h : o.wp P a w K Q) : o.wpIn F n P a w K Q := by
 refine ⟨fun f _ => by subst hF; trivial, ?_⟩
 have hr : F.round = r := by subst hF; rfl
 have hd : F.depth.isSome = true → 1 ≤ n := fun h => by subst hF; simp [Fence.wide] at h
 rw [hr, hs]
 unfold Oper.wp at h
 generalize (execOp a.eval o).run P w = res at *
 cases res with
 | ok x w' =>
  cases x <;> simp only [Oper.upon] at h <;> simp only [Oper.uponIn] <;>
   first
    | exact h
    | exact ⟨hd, callsIn_any hF h⟩
    | exact h.elim
    | skip
  ·rename_i row args
   exact ⟨hd, rowsIn_any hF h⟩
 | halt x w' => cases x <;> simp only [Oper.upon] at h <;> simp only [Oper.uponIn] <;> first | exact h | exact h.elim
theorem getD_tf {a : Array Bool} {j : Nat} : a.getD j true = false ↔ a[j]? = some false := by
 rw [Array.getD_eq_getD_getElem?]; cases a[j]? <;> simp
theorem getD_ft {a : Array Bool} {j : Nat} : a.getD j false = true ↔ a[j]? = some true := by
 rw [Array.getD_eq_getD_getElem?]; cases a[j]? <;> simp
def FinE (F : Fence) (n : Nat) (P : Program) (ops : Array Oper) (C : World → Prop) (E : Nat → Value → World → Prop) (Q : Exit → Act → World → Prop) (a0 : Act) (m : Nat) : Prop :=
 ∀ (vs : Nat → Value) (w : World), C w → (∀ i, i < m → E i (vs i) w) → (∀ i, m ≤ i → vs i = slot0 ops a0 i) → wpOpsIn F n P ops Q (List.range' m (ops.size - m)) (fillA ops.toList 0 vs a0) w
theorem wpAnyIn_chain {F : Fence} {n : Nat} {P : Program} {ops : Array Oper} {Q : Exit → Act → World → Prop} {m : Nat}
  (hold : ∀ (j : Nat) (o : Oper), ops[j]? = some o → ∀ i, i ∈ waits o → i < j) (hchain : ∀ (i : Nat) (o : Oper), m ≤ i → ops[i + 1]? = some o → i ∈ waits o) :
  ∀ (fuel k : Nat) (listed : Array Bool) (a : Act) (w : World), m ≤ k → k + fuel = ops.size → listed.size = ops.size → (∀ i : Nat, i < k → listed[i]? = some true) → (∀ i : Nat, k ≤ i → listed[i]? ≠ some true) →
   wpOpsIn F n P ops Q (List.range' k fuel) a w → wpAnyIn F n P .any ops Q fuel listed a w := by
 intro fuel
 induction fuel with
 | zero =>
  intro k listed a w hmk hk hsz hlow _ h
  refine ⟨?_, h⟩
  rcases hr : Region.ready .any ops listed with _ | ⟨x, l⟩
  ·rfl
  ·have hx : x ∈ Region.ready .any ops listed := by rw [hr]; exact List.mem_cons_self
   obtain ⟨h1, o, ho, _⟩ := mem_ready.1 hx
   rw [getD_tf, hlow x (by have := (Array.getElem?_eq_some_iff.1 ho).1; omega)] at h1
   cases h1
 | succ fuel ih =>
  intro k listed a w hmk hk hsz hlow hhigh h
  have hks : k < ops.size := by omega
  have hok := Array.getElem?_eq_getElem hks
  have hlk : listed[k]? = some false := by
   have hl : k < listed.size := by omega
   have := hhigh k (Nat.le_refl _)
   rw [Array.getElem?_eq_getElem hl] at this ⊢
   cases hb : listed[k] with
   | true => rw [hb] at this; exact absurd rfl this
   | false => rfl
  have hmem : k ∈ Region.ready .any ops listed := mem_ready.2 ⟨getD_tf.2 hlk, _, hok, fun e he hb => getD_ft.2 (hlow _ (hold k _ hok _ (mem_waits.2 ⟨e, he, hb, rfl⟩)))⟩
  refine ⟨(fun h0 => by rw [h0] at hmem; cases hmem), fun j hj => ?_⟩
  obtain ⟨hjf, o, ho, hw⟩ := mem_ready.1 hj
  rw [getD_tf] at hjf
  have hjk : j = k := by
   rcases Nat.lt_trichotomy j k with h1 | h1 | h1
   ·rw [hlow j h1] at hjf; cases hjf
   ·exact h1
   exfalso
   obtain ⟨i, rfl⟩ : ∃ i, j = i + 1 := ⟨j - 1, by omega⟩
   obtain ⟨e, he, hb, heq⟩ := mem_waits.1 (hchain i o (by omega) ho)
   have := getD_ft.1 (hw e he hb)
   rw [heq] at this
   exact hhigh i (by omega) this
  subst hjk
  rw [List.range'_succ, wpOpsIn_cons] at h
  refine wpOpIn_mono (fun a' w' h' => ?_) h
  refine ih (j + 1) (listed.setIfInBounds j true) a' w' (by omega) (by omega) (by simpa using hsz) (fun i hi => ?_) (fun i hi => ?_) h'
  ·rw [Array.getElem?_setIfInBounds]
   by_cases e : j = i
   ·subst e; rw [if_pos rfl, if_pos (by omega)]
   rw [if_neg e]; exact hlow i (by omega)
  rw [Array.getElem?_setIfInBounds, if_neg (by omega)]; exact hhigh i (by omega)
theorem wpAnyIn_env {F : Fence} {r : Option Nat} (hF : F = { Fence.wide with round := r }) {n : Nat} {P : Program} {ops : Array Oper} {C : World → Prop} {X : World → World → Prop} {E : Nat → Value → World → Prop} {Q : Exit → Act → World → Prop} {a0 : Act} {m : Nat}
  (hsem : ∀ (j : Nat) (o : Oper), ops[j]? = some o → ∀ ρ, o.semAt r ρ = execOp ρ o) (hgood : goodB ops m = true) (hm1 : m ≤ ops.size)
  (stab : ∀ i v w w', C w → X w w' → E i v w → E i v w')
  (step : ∀ (j : Nat) (o : Oper), j < m → ops[j]? = some o → StepE P ops C X E Q a0 j o) (fin : FinE F n P ops C E Q a0 m) :
  ∀ (fuel : Nat) (listed : Array Bool) (vs : Nat → Value) (w : World), listed.size = ops.size → listed.toList.count false = fuel →
   (∀ (j : Nat) (o : Oper), listed[j]? = some true → ops[j]? = some o → ∀ i, i ∈ waits o → listed[i]? = some true) →
   (∀ i : Nat, listed[i]? = some true → E i (vs i) w) → (∀ i : Nat, listed[i]? ≠ some true → vs i = slot0 ops a0 i) → (∀ i : Nat, m ≤ i → listed[i]? ≠ some true) → C w →
   wpAnyIn F n P .any ops Q fuel listed (fillA ops.toList 0 vs a0) w := by
 simp only [goodB, Bool.and_eq_true, List.all_eq_true, List.mem_range, decide_eq_true_eq, Bool.or_eq_true, List.any_eq_true] at hgood
 obtain ⟨⟨⟨hg1, hg2⟩, hg3⟩, hg4⟩ := hgood
 have hold : ∀ (j : Nat) (o : Oper), ops[j]? = some o → ∀ i, i ∈ waits o → i < j := fun j o ho i hi => by
  have hj : j < ops.size := (Array.getElem?_eq_some_iff.1 ho).1
  have := hg1 j hj
  rw [ho] at this
  simp only [Option.map_some, Option.getD_some, List.all_eq_true, decide_eq_true_eq] at this
  exact this i hi
 have hchain : ∀ (i : Nat) (o : Oper), m ≤ i → ops[i + 1]? = some o → i ∈ waits o := fun i o hmi ho => by
  have hi := (Array.getElem?_eq_some_iff.1 ho).1
  rcases hg4 i (by omega) with h | h
  ·omega
  rw [ho] at h; simpa using h
 have hdst := nodup_dst hg2
 intro fuel
 have done : ∀ (fuel : Nat) (listed : Array Bool) (vs : Nat → Value) (w : World), listed.size = ops.size → listed.toList.count false = fuel → (∀ i : Nat, i < m → listed[i]? = some true) →
   (∀ i : Nat, listed[i]? = some true → E i (vs i) w) → (∀ i : Nat, listed[i]? ≠ some true → vs i = slot0 ops a0 i) → (∀ i : Nat, m ≤ i → listed[i]? ≠ some true) → C w →
   wpAnyIn F n P .any ops Q fuel listed (fillA ops.toList 0 vs a0) w := by
  intro fuel listed vs w hsz hc hl hE hU hm hC
  have hfuel : fuel = ops.size - m := by
   have h1 : listed.toList = List.replicate m true ++ List.replicate (ops.size - m) false := by
    apply List.ext_getElem?
    intro i
    rw [Array.getElem?_toList]
    by_cases him : i < m
    ·rw [hl i him, List.getElem?_append_left (by simpa using him), List.getElem?_replicate, if_pos him]
    rw [List.getElem?_append_right (by simp; omega), List.getElem?_replicate, List.length_replicate]
    by_cases his : i < ops.size
    ·rw [if_pos (by omega)]
     have := hm i (by omega)
     have hl' : i < listed.size := by omega
     rw [Array.getElem?_eq_getElem hl'] at this ⊢
     cases hb : listed[i] with
     | true => rw [hb] at this; exact absurd rfl this
     | false => rfl
    rw [if_neg (by omega), Array.getElem?_eq_none (by omega)]
   rw [h1, List.count_append, List.count_replicate, List.count_replicate] at hc
   simp at hc
   omega
  subst hfuel
  exact wpAnyIn_chain hold hchain (ops.size - m) m listed _ w (Nat.le_refl _) (by omega) hsz hl hm (fin vs w hC (fun i hi => hE i (hl i hi)) (fun i hi => hU i (hm i hi)))
 induction fuel with
 | zero =>
  intro listed vs w hsz hc hcl hE hU hm hC
  refine done 0 listed vs w hsz hc (fun i hi => ?_) hE hU hm hC
  have := count_zero hc (i := i) (by rw [Array.length_toList, hsz]; omega)
  simpa using this
 | succ fuel ih =>
  intro listed vs w hsz hc hcl hE hU hm hC
  by_cases hl : ∀ i : Nat, i < m → listed[i]? = some true
  ·exact done _ listed vs w hsz hc hl hE hU hm hC
  obtain ⟨i0, hi0, hn0⟩ : ∃ i, i < m ∧ listed[i]? ≠ some true := Classical.byContradiction fun h => hl fun i hi => Classical.byContradiction fun h2 => h ⟨i, hi, h2⟩
  have hfalse : ∀ i : Nat, i < ops.size → listed[i]? ≠ some true → listed[i]? = some false := fun i hi h => by
   have hl' : i < listed.size := by omega
   rw [Array.getElem?_eq_getElem hl'] at h ⊢
   cases hb : listed[i] with
   | true => rw [hb] at h; exact absurd rfl h
   | false => rfl
  refine ⟨fun h0 => ?_, fun j hj => ?_⟩
  ·exfalso
   have key : ∀ i : Nat, i < ops.size → listed[i]? = some true := by
    intro i
    induction i using Nat.strongRecOn with
    | _ i ihi =>
     intro hi
     refine Classical.byContradiction fun h => ?_
     have hmem : i ∈ Region.ready .any ops listed := mem_ready.2 ⟨getD_tf.2 (hfalse i hi h), ops[i], Array.getElem?_eq_getElem hi, fun e he hbind => getD_ft.2 (by
      have := hold i _ (Array.getElem?_eq_getElem hi) _ (mem_waits.2 ⟨e, he, hbind, rfl⟩)
      exact ihi _ this (by omega))⟩
     rw [h0] at hmem
     cases hmem
   exact hn0 (key i0 (by omega))
  obtain ⟨hjf, o, ho, hw⟩ := mem_ready.1 hj
  rw [getD_tf] at hjf
  have hjs : j < ops.size := (Array.getElem?_eq_some_iff.1 ho).1
  have hwl : ∀ i, i ∈ waits o → listed[i]? = some true := fun i hi => by
   obtain ⟨e, he, hb, rfl⟩ := mem_waits.1 hi
   exact getD_ft.1 (hw e he hb)
  have hjm : j < m := by
   rcases Nat.lt_trichotomy j m with h1 | h1 | h1
   ·exact h1
   ·exfalso
    subst h1
    have hothers : ∀ (d i : Nat), i < j → i + d = j → listed[i]? = some true := by
     intro d
     induction d using Nat.strongRecOn with
     | _ d ihd =>
      intro i hi hid
      rcases hg3 i hi with h | ⟨k, hk, hk2⟩
      ·omega
      obtain ⟨hik, hkw⟩ := hk2
      have hks : k < ops.size := by omega
      rw [Array.getElem?_eq_getElem hks] at hkw
      simp only [Option.map_some, Option.getD_some, List.contains_iff_mem] at hkw
      rcases Nat.lt_or_ge k j with h2 | h2
      ·have := ihd (j - k) (by omega) k h2 (by omega)
       exact hcl k _ this (Array.getElem?_eq_getElem hks) i hkw
      have hkj : k = j := by omega
      subst hkj
      rw [Array.getElem?_eq_getElem hks] at ho
      cases ho
      exact hwl i hkw
    exact hn0 (hothers (j - i0) i0 hi0 (by omega))
   exfalso
   obtain ⟨i, rfl⟩ : ∃ i, j = i + 1 := ⟨j - 1, by omega⟩
   exact hm i (by omega) (hwl i (hchain i o (by omega) ho))
  have hcount : (listed.setIfInBounds j true).toList.count false = fuel := by
   have h1 : listed.toList[j]? = some false := by simpa using hjf
   have := count_set h1
   rw [Array.toList_setIfInBounds]
   omega
  have hsz' : (listed.setIfInBounds j true).size = ops.size := by simpa using hsz
  have hget' : ∀ i : Nat, (listed.setIfInBounds j true)[i]? = if i = j then some true else listed[i]? := fun i => by
   rw [Array.getElem?_setIfInBounds]
   by_cases h : j = i
   ·subst h; rw [if_pos rfl, if_pos rfl, if_pos (by omega)]
   rw [if_neg h, if_neg (fun e => h e.symm)]
  have hput : ∀ v, (fillA ops.toList 0 vs a0).put o.dst v = fillA ops.toList 0 (updV vs j v) a0 := fun v => by
   have := fillA_put ops.toList 0 vs a0 j o v (by simpa using ho) (fun i o' hij hi => hdst i j o o' hi (by simpa using ho) hij)
   simpa using this
  have hvj : vs j = slot0 ops a0 j := hU j (by rw [hjf]; simp)
  have hst := step j o hjm ho vs w hC (fun i hi => hE i (hwl i hi)) (fun i o' ho' hi => hU i (fun hl => by
   have := hcl i o' hl ho' j hi
   rw [hjf] at this; cases this)) hvj
  have hnext : ∀ v w', C w' → (∀ i : Nat, listed[i]? = some true → E i (vs i) w') → E j v w' → wpAnyIn F n P .any ops Q fuel (listed.setIfInBounds j true) ((fillA ops.toList 0 vs a0).put o.dst v) w' := fun v w' hC' hEs hv => by
   rw [hput]
   refine ih _ _ _ hsz' hcount ?_ ?_ ?_ ?_ hC'
   ·intro i o' hi ho' k hk
    rw [hget'] at hi ⊢
    by_cases hkj : k = j
    ·rw [if_pos hkj]
    rw [if_neg hkj]
    by_cases hij : i = j
    ·subst hij
     rw [ho] at ho'; cases ho'
     exact hwl k hk
    rw [if_neg hij] at hi
    exact hcl i o' hi ho' k hk
   ·intro i hi
    rw [hget'] at hi
    by_cases hij : i = j
    ·subst hij; simpa [updV] using hv
    rw [if_neg hij] at hi
    rw [show updV vs j v i = vs i by simp [updV, hij]]
    exact hEs i hi
   ·intro i hi
    rw [hget'] at hi
    by_cases hij : i = j
    ·rw [if_pos hij] at hi; exact absurd rfl hi
    rw [if_neg hij] at hi
    rw [show updV vs j v i = vs i by simp [updV, hij]]
    exact hU i hi
   intro i hi
   rw [hget', if_neg (by omega)]; exact hm i hi
  unfold wpOpIn
  simp only [ho]
  split
  ·rename_i hwant
   simp only [hwant, if_true] at hst
   refine Oper.wpIn_mono ?_ (Oper.wpIn_of_wp hF (hsem j o ho) hst)
   rintro a' w' ⟨v, rfl, hC', hX, hv⟩
   exact hnext v w' hC' (fun i hi => stab i _ _ _ hC hX (hE i hi)) hv
  rename_i hwant
  simp only [hwant, if_false, Bool.false_eq_true] at hst
  exact ⟨fun f _ => by subst hF; trivial, hnext undef w hC hE hst⟩
def noDefB (ops : Array Oper) : Bool := ops.toList.all fun o => match o.op with | .defer _ => false | _ => true
theorem noDefB_sem {ops : Array Oper} (h : noDefB ops = true) {r : Option Nat} {j : Nat} {o : Oper} (ho : ops[j]? = some o) (ρ : Operand → Value) : o.semAt r ρ = execOp ρ o := by
 refine Oper.semAt_eq r ρ o (fun c hc => ?_)
 have := List.all_eq_true.1 h o (List.mem_of_getElem? (by simpa using ho))
 rw [hc] at this
 cases this
theorem wpIn_region_env {F : Fence} {r : Option Nat} (hF : F = { Fence.wide with round := r }) {n id : Nat} {P : Program} {ops : Array Oper} {Q : Exit → Act → World → Prop} {a0 : Act} {w0 : World} (C : World → Prop) (X : World → World → Prop) (E : Nat → Value → World → Prop) (m : Nat)
  (hP : P.follows .mixedOrders = true) (hd : noDefB ops = true) (hgood : goodB ops m = true) (hm1 : m ≤ ops.size) (hC : C { w0 with drawn := w0.drawn + 1 })
  (stab : ∀ i v w w', C w → X w w' → E i v w → E i v w')
  (step : StepsE P ops C X E Q a0 (ops.toList.take m) 0) (fin : FinE F n P ops C E Q a0 m) : (Code.region id ops true).wpIn F n P Q a0 w0 := by
 refine wpIn_region_any hP ?_
 have h := wpAnyIn_env hF (n := n) (P := P) (ops := ops) (C := C) (X := X) (E := E) (Q := Q) (a0 := a0) (m := m) (fun j o ho ρ => noDefB_sem hd ho ρ) hgood hm1 stab
  (fun j o hj ho => by have := step.get (j := j) (o := o) (by rw [List.getElem?_take, if_pos hj]; simpa using ho); simpa using this) fin
  ops.size (Array.replicate ops.size false) (slot0 ops a0) { w0 with drawn := w0.drawn + 1 } (by simp) (by simp) ?_ ?_ (fun _ _ => rfl) ?_ hC
 ·rw [fillA_slot0] at h; exact h
 ·intro j o hj; rw [Array.getElem?_replicate] at hj; split at hj <;> cases hj
 ·intro j hj; rw [Array.getElem?_replicate] at hj; split at hj <;> cases hj
 intro i _ hj; rw [Array.getElem?_replicate] at hj; split at hj <;> cases hj
def Fin1 (P : Program) (ops : Array Oper) (C : World → Prop) (E : Nat → Value → World → Prop) (Q : Exit → Act → World → Prop) (a0 : Act) (m : Nat) : Prop :=
 ∀ (vs : Nat → Value) (w : World), C w → (∀ i, i < m → E i (vs i) w) → (∀ i, m ≤ i → vs i = slot0 ops a0 i) →
  match ops[m]? with
  | none => Q .normal (fillA ops.toList 0 vs a0) w
  | some o => if Region.wanted o (yielded ops (fillA ops.toList 0 vs a0).tmps) = true then o.wp P (fillA ops.toList 0 vs a0) w (fun a' w' => Q .normal a' w') Q
   else Q .normal ((fillA ops.toList 0 vs a0).put o.dst undef) w
theorem Fin1.fin {F : Fence} {r : Option Nat} (hF : F = { Fence.wide with round := r }) {n : Nat} {P : Program} {ops : Array Oper} {C : World → Prop} {E : Nat → Value → World → Prop} {Q : Exit → Act → World → Prop} {a0 : Act} {m : Nat}
  (hd : noDefB ops = true) (hm1 : m ≤ ops.size) (hm2 : ops.size ≤ m + 1) (h : Fin1 P ops C E Q a0 m) : FinE F n P ops C E Q a0 m := by
 intro vs w hC hE hU
 have := h vs w hC hE hU
 rcases Nat.lt_or_ge m ops.size with hlt | hge
 ·have hs : ops.size - m = 1 := by omega
  have ho := Array.getElem?_eq_getElem hlt
  rw [hs, List.range'_one, wpOpsIn_cons]
  rw [ho] at this
  unfold wpOpIn
  simp only [ho]
  split
  ·rename_i hwant
   simp only [hwant, if_true] at this
   exact Oper.wpIn_of_wp hF (noDefB_sem hd ho) this
  rename_i hwant
  simp only [hwant, if_false, Bool.false_eq_true] at this
  exact ⟨fun f _ => by subst hF; trivial, this⟩
 have hs : ops.size - m = 0 := by omega
 rw [hs, List.range'_zero]
 rw [Array.getElem?_eq_none hge] at this
 exact this
theorem wpIn_region_env1 {F : Fence} {r : Option Nat} (hF : F = { Fence.wide with round := r }) {n id : Nat} {P : Program} {ops : Array Oper} {Q : Exit → Act → World → Prop} {a0 : Act} {w0 : World} (C : World → Prop) (X : World → World → Prop) (E : Nat → Value → World → Prop) (m : Nat)
  (hP : P.follows .mixedOrders = true) (hd : noDefB ops = true) (hgood : goodB ops m = true) (hm1 : m ≤ ops.size) (hm2 : ops.size ≤ m + 1) (hC : C { w0 with drawn := w0.drawn + 1 })
  (stab : ∀ i v w w', C w → X w w' → E i v w → E i v w')
  (step : StepsE P ops C X E Q a0 (ops.toList.take m) 0) (fin : Fin1 P ops C E Q a0 m) : (Code.region id ops true).wpIn F n P Q a0 w0 :=
 wpIn_region_env hF C X E m hP hd hgood hm1 hC stab step (fin.fin hF hd hm1 hm2)
theorem wp_region_env {id : Nat} {P : Program} {ops : Array Oper} {Q : Exit → Act → World → Prop} {a0 : Act} {w0 : World} (C : World → Prop) (X : World → World → Prop) (E : Nat → Value → World → Prop) (m : Nat)
  (hP : P.follows .mixedOrders = true) (hd : noDefB ops = true) (hgood : goodB ops m = true) (hm1 : m ≤ ops.size) (hm2 : ops.size ≤ m + 1) (hC : C { w0 with drawn := w0.drawn + 1 })
  (stab : ∀ i v w w', C w → X w w' → E i v w → E i v w')
  (step : StepsE P ops C X E Q a0 (ops.toList.take m) 0) (fin : Fin1 P ops C E Q a0 m) : (Code.region id ops true).wp P Q a0 w0 :=
 (wpIn_wide (n := 0)).1 (wpIn_region_env1 (r := none) rfl C X E m hP hd hgood hm1 hm2 hC stab step fin)
def envOf (l : List (Value → World → Prop)) : Nat → Value → World → Prop := fun i => l.getD i (fun _ _ => True)
def isV (x : Value) : Value → World → Prop := fun v _ => v = x
theorem envOf_stab {C : World → Prop} {X : World → World → Prop} {l : List (Value → World → Prop)} (h : ∀ p ∈ l, ∀ v w w', C w → X w w' → p v w → p v w') : ∀ i v w w', C w → X w w' → envOf l i v w → envOf l i v w' := by
 intro i v w w' hC hX hE
 unfold envOf at *
 by_cases hi : i < l.length
 ·rw [List.getD_eq_getElem?_getD, List.getElem?_eq_getElem hi] at hE ⊢
  exact h _ (List.getElem_mem hi) v w w' hC hX hE
 rw [List.getD_eq_getElem?_getD, List.getElem?_eq_none (by omega)]
 trivial
theorem isV_stab {C : World → Prop} {X : World → World → Prop} {x : Value} : ∀ v w w', C w → X w w' → isV x v w → isV x v w' := fun _ _ _ _ _ h => h
def StabL (C : World → Prop) (X : World → World → Prop) (l : List (Value → World → Prop)) : Prop := ∀ p ∈ l, ∀ v w w', C w → X w w' → p v w → p v w'
theorem StabL.nil {C : World → Prop} {X : World → World → Prop} : StabL C X [] := fun p h => by cases h
theorem StabL.is {C : World → Prop} {X : World → World → Prop} {x : Value} {l : List (Value → World → Prop)} (h : StabL C X l) : StabL C X (isV x :: l) := fun p hp => by
 rcases List.mem_cons.1 hp with rfl | hp
 ·exact isV_stab
 exact h p hp
theorem StabL.cons {C : World → Prop} {X : World → World → Prop} {p : Value → World → Prop} {l : List (Value → World → Prop)} (hp : ∀ v w w', C w → X w w' → p v w → p v w') (h : StabL C X l) : StabL C X (p :: l) := fun p' hp' => by
 rcases List.mem_cons.1 hp' with rfl | hp'
 ·exact hp
 exact h p' hp'
section
variable (P : Program) (ops : Array Oper) (C : World → Prop) (X : World → World → Prop) (full : List (Value → World → Prop)) (Q : Exit → Act → World → Prop) (a0 : Act)
def StepP (p : Value → World → Prop) (j : Nat) (o : Oper) : Prop :=
 ∀ (vs : Nat → Value) (w : World) (K : Act → World → Prop), C w → (∀ i ∈ waits o, envOf full i (vs i) w) → (∀ (i : Nat) (o' : Oper), ops[i]? = some o' → j ∈ waits o' → vs i = slot0 ops a0 i) →
  (∀ v w', C w' → X w w' → p v w' → K ((fillA ops.toList 0 vs a0).put o.dst v) w') →
   if Region.wanted o (yielded ops (fillA ops.toList 0 vs a0).tmps) = true then o.wp P (fillA ops.toList 0 vs a0) w K Q else p undef w
def StepC (x : Value) (j : Nat) (o : Oper) : Prop :=
 ∀ (vs : Nat → Value) (w : World) (K : Act → World → Prop), C w → (∀ i ∈ waits o, envOf full i (vs i) w) → (∀ (i : Nat) (o' : Oper), ops[i]? = some o' → j ∈ waits o' → vs i = slot0 ops a0 i) →
  (∀ w', C w' → X w w' → K ((fillA ops.toList 0 vs a0).put o.dst x) w') →
   if Region.wanted o (yielded ops (fillA ops.toList 0 vs a0).tmps) = true then o.wp P (fillA ops.toList 0 vs a0) w K Q else undef = x
def StepsL : List Oper → List (Value → World → Prop) → Nat → Prop
 | [], _, _ => True
 | o :: l, p :: ps, k => StepP P ops C X full Q a0 p k o ∧ StepsL l ps (k + 1)
 | _ :: _, [], _ => False
end
section
variable {P : Program} {ops : Array Oper} {C : World → Prop} {X : World → World → Prop} {full : List (Value → World → Prop)} {Q : Exit → Act → World → Prop} {a0 : Act}
theorem StepsL.nil {ps : List (Value → World → Prop)} {k : Nat} : StepsL P ops C X full Q a0 [] ps k := by unfold StepsL; trivial
theorem StepsL.cons {p : Value → World → Prop} {ps : List (Value → World → Prop)} {o : Oper} {l : List Oper} {k : Nat} (h : StepP P ops C X full Q a0 p k o) (hl : StepsL P ops C X full Q a0 l ps (k + 1)) : StepsL P ops C X full Q a0 (o :: l) (p :: ps) k := ⟨h, hl⟩
theorem StepsL.is {x : Value} {ps : List (Value → World → Prop)} {o : Oper} {l : List Oper} {k : Nat} (h : StepC P ops C X full Q a0 x k o) (hl : StepsL P ops C X full Q a0 l ps (k + 1)) : StepsL P ops C X full Q a0 (o :: l) (isV x :: ps) k :=
 ⟨fun vs w K hC hD hU hK => h vs w K hC hD hU (fun w' hC' hX => hK x w' hC' hX rfl), hl⟩
theorem StepsL.isA {x : Value} {ps : List (Value → World → Prop)} {o : Oper} {l : List Oper} {k : Nat}
  (h : ∀ (vs : Nat → Value) (a : Act) (w : World) (K : Act → World → Prop), a = fillA ops.toList 0 vs a0 → C w → (∀ i ∈ waits o, envOf full i (vs i) w) → (∀ (i : Nat) (o' : Oper), ops[i]? = some o' → k ∈ waits o' → vs i = slot0 ops a0 i) →
   (∀ w', C w' → X w w' → K (a.put o.dst x) w') → if Region.wanted o (yielded ops a.tmps) = true then o.wp P a w K Q else undef = x)
  (hl : StepsL P ops C X full Q a0 l ps (k + 1)) : StepsL P ops C X full Q a0 (o :: l) (isV x :: ps) k :=
 StepsL.is (fun vs w K hC hD hU hK => h vs _ w K rfl hC hD hU hK) hl
theorem StepsL.consA {p : Value → World → Prop} {ps : List (Value → World → Prop)} {o : Oper} {l : List Oper} {k : Nat}
  (h : ∀ (vs : Nat → Value) (a : Act) (w : World) (K : Act → World → Prop), a = fillA ops.toList 0 vs a0 → C w → (∀ i ∈ waits o, envOf full i (vs i) w) → (∀ (i : Nat) (o' : Oper), ops[i]? = some o' → k ∈ waits o' → vs i = slot0 ops a0 i) →
   (∀ v w', C w' → X w w' → p v w' → K (a.put o.dst v) w') → if Region.wanted o (yielded ops a.tmps) = true then o.wp P a w K Q else p undef w)
  (hl : StepsL P ops C X full Q a0 l ps (k + 1)) : StepsL P ops C X full Q a0 (o :: l) (p :: ps) k :=
 StepsL.cons (fun vs w K hC hD hU hK => h vs _ w K rfl hC hD hU hK) hl
theorem StepsL.steps : ∀ {l : List Oper} {ps : List (Value → World → Prop)} {k : Nat}, StepsL P ops C X full Q a0 l ps k → ps = full.drop k → StepsE P ops C X (envOf full) Q a0 l k := by
 intro l
 induction l with
 | nil => intros; trivial
 | cons o l ih =>
  intro ps k h hps
  cases ps with
  | nil => exact h.elim
  | cons p ps =>
   have hp : envOf full k = p := by
    have h0 : full[k]? = some p := by
     have := congrArg (fun l : List (Value → World → Prop) => l[0]?) hps
     simpa using this.symm
    funext v w
    unfold envOf
    rw [List.getD_eq_getElem?_getD, h0]; rfl
   have hps' : ps = full.drop (k + 1) := by
    have := congrArg List.tail hps
    simpa using this
   refine ⟨fun vs w hC hD hU hv => ?_, ih h.2 hps'⟩
   have := h.1 vs w (fun a' w' => ∃ v, a' = (fillA ops.toList 0 vs a0).put o.dst v ∧ C w' ∧ X w w' ∧ envOf full k v w') hC hD hU (fun v w' hC' hX hpv => ⟨v, rfl, hC', hX, by rw [hp]; exact hpv⟩)
   split
   ·rename_i hw; rw [if_pos hw] at this; exact this
   rename_i hw; rw [if_neg hw] at this; rw [hp]; exact this
end
theorem wpIn_region_list {F : Fence} {r : Option Nat} (hF : F = { Fence.wide with round := r }) {n id : Nat} {P : Program} {ops : Array Oper} {Q : Exit → Act → World → Prop} {a0 : Act} {w0 : World} (C : World → Prop) (X : World → World → Prop) (full : List (Value → World → Prop))
  (hP : P.follows .mixedOrders = true) (hd : noDefB ops = true) (hgood : goodB ops full.length = true) (hm1 : full.length ≤ ops.size) (hC : C { w0 with drawn := w0.drawn + 1 })
  (stab : StabL C X full) (step : StepsL P ops C X full Q a0 (ops.toList.take full.length) full 0) (fin : FinE F n P ops C (envOf full) Q a0 full.length) : (Code.region id ops true).wpIn F n P Q a0 w0 :=
 wpIn_region_env hF C X (envOf full) full.length hP hd hgood hm1 hC (envOf_stab stab) (step.steps rfl) fin
theorem wpIn_region_list1 {F : Fence} {r : Option Nat} (hF : F = { Fence.wide with round := r }) {n id : Nat} {P : Program} {ops : Array Oper} {Q : Exit → Act → World → Prop} {a0 : Act} {w0 : World} (C : World → Prop) (X : World → World → Prop) (full : List (Value → World → Prop))
  (hP : P.follows .mixedOrders = true) (hd : noDefB ops = true) (hgood : goodB ops full.length = true) (hm1 : full.length ≤ ops.size) (hm2 : ops.size ≤ full.length + 1) (hC : C { w0 with drawn := w0.drawn + 1 })
  (stab : StabL C X full) (step : StepsL P ops C X full Q a0 (ops.toList.take full.length) full 0) (fin : Fin1 P ops C (envOf full) Q a0 full.length) : (Code.region id ops true).wpIn F n P Q a0 w0 :=
 wpIn_region_env1 hF C X (envOf full) full.length hP hd hgood hm1 hm2 hC (envOf_stab stab) (step.steps rfl) fin
theorem wp_region_list {id : Nat} {P : Program} {ops : Array Oper} {Q : Exit → Act → World → Prop} {a0 : Act} {w0 : World} (C : World → Prop) (X : World → World → Prop) (full : List (Value → World → Prop))
  (hP : P.follows .mixedOrders = true) (hd : noDefB ops = true) (hgood : goodB ops full.length = true) (hm1 : full.length ≤ ops.size) (hm2 : ops.size ≤ full.length + 1) (hC : C { w0 with drawn := w0.drawn + 1 })
  (stab : StabL C X full) (step : StepsL P ops C X full Q a0 (ops.toList.take full.length) full 0) (fin : Fin1 P ops C (envOf full) Q a0 full.length) : (Code.region id ops true).wp P Q a0 w0 :=
 wp_region_env C X (envOf full) full.length hP hd hgood hm1 hm2 hC (envOf_stab stab) (step.steps rfl) fin
end Go.Proofs.YtdbfincinjoppabGreatDoor
