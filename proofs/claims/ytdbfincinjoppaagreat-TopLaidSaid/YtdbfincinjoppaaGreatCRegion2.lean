/- A part of the proof that TopLaid always answers true. -/
import Derived.Test.YtdbfincinjoppaaGreatCRegion
set_option linter.all false
namespace Go.Proofs.YtdbfincinjoppaaGreat
open Go.RowKit
def StepE2 (P : Program) (ops : Array Oper) (C : Bool → World → Prop) (X : Bool → World → World → Prop) (E : Nat → Value → World → Prop) (Q : Exit → Act → World → Prop) (a0 : Act) (j0 j : Nat) (o : Oper) : Prop :=
 ∀ (b : Bool) (vs : Nat → Value) (w : World), (j = j0 → b = false) → C b w → (∀ i ∈ waits o, E i (vs i) w) → (∀ (i : Nat) (o' : Oper), ops[i]? = some o' → j ∈ waits o' → vs i = slot0 ops a0 i) → vs j = slot0 ops a0 j →
  if Region.wanted o (yielded ops (fillA ops.toList 0 vs a0).tmps) = true then
   o.wp P (fillA ops.toList 0 vs a0) w (fun a' w' => ∃ v, a' = (fillA ops.toList 0 vs a0).put o.dst v ∧ C (if j = j0 then true else b) w' ∧ X b w w' ∧ E j v w') Q
  else C (if j = j0 then true else b) w ∧ E j undef w
theorem wpAnyIn_env2 {F : Fence} {r : Option Nat} (hF : F = { Fence.wide with round := r }) {n : Nat} {P : Program} {ops : Array Oper} {C : Bool → World → Prop} {X : Bool → World → World → Prop} {E : Nat → Value → World → Prop} {Q : Exit → Act → World → Prop} {a0 : Act} {m j0 : Nat} (hj0 : j0 < m)
  (hsem : ∀ (j : Nat) (o : Oper), ops[j]? = some o → ∀ ρ, o.semAt r ρ = execOp ρ o) (hgood : goodB ops m = true) (hm1 : m ≤ ops.size)
  (stab : ∀ b i v w w', (i = j0 → b = true) → C b w → X b w w' → E i v w → E i v w')
  (step : ∀ (j : Nat) (o : Oper), j < m → ops[j]? = some o → StepE2 P ops C X E Q a0 j0 j o) (fin : FinE F n P ops (C true) E Q a0 m) :
  ∀ (fuel : Nat) (listed : Array Bool) (vs : Nat → Value) (w : World), listed.size = ops.size → listed.toList.count false = fuel →
   (∀ (j : Nat) (o : Oper), listed[j]? = some true → ops[j]? = some o → ∀ i, i ∈ waits o → listed[i]? = some true) →
   (∀ i : Nat, listed[i]? = some true → E i (vs i) w) → (∀ i : Nat, listed[i]? ≠ some true → vs i = slot0 ops a0 i) → (∀ i : Nat, m ≤ i → listed[i]? ≠ some true) → C (listed.getD j0 false) w →
   wpAnyIn F n P .any ops Q fuel listed (fillA ops.toList 0 vs a0) w := by
 simp only [goodB, Bool.and_eq_true, List.all_eq_true, List.mem_range, decide_eq_true_eq, Bool.or_eq_true, List.any_eq_true] at hgood
 obtain ⟨⟨⟨hg1, hg2⟩, hg3⟩, hg4⟩ := hgood
 have hold : ∀ (j : Nat) (o : Oper), ops[j]? = some o → ∀ i, i ∈ waits o → i < j := fun j o ho i hi => by
  have hj : j < ops.size := (Array.getElem?_eq_some_iff.1 ho).1
  have := hg1 j hj
  rw [ho] at this
  simp only [Option.map_some, Option.getD_some, List.all_eq_true, decide_eq_true_eq] at this
  exact this i hi
 have hchain : ∀ (i : Nat) (o : Oper), m ≤ i → ops[i + 1]? = some o → i ∈ waits o := fun i o hmi ho => by
  have hi := (Array.getElem?_eq_some_iff.1 ho).1
  rcases hg4 i (by omega) with h | h
  ·omega
  rw [ho] at h; simpa using h
 have hdst := nodup_dst hg2
 intro fuel
 have done : ∀ (fuel : Nat) (listed : Array Bool) (vs : Nat → Value) (w : World), listed.size = ops.size → listed.toList.count false = fuel → (∀ i : Nat, i < m → listed[i]? = some true) →
   (∀ i : Nat, listed[i]? = some true → E i (vs i) w) → (∀ i : Nat, listed[i]? ≠ some true → vs i = slot0 ops a0 i) → (∀ i : Nat, m ≤ i → listed[i]? ≠ some true) → C (listed.getD j0 false) w →
   wpAnyIn F n P .any ops Q fuel listed (fillA ops.toList 0 vs a0) w := by
  intro fuel listed vs w hsz hc hl hE hU hm hC
  have hfuel : fuel = ops.size - m := by
   have h1 : listed.toList = List.replicate m true ++ List.replicate (ops.size - m) false := by
    apply List.ext_getElem?
    intro i
    rw [Array.getElem?_toList]
    by_cases him : i < m
    ·rw [hl i him, List.getElem?_append_left (by simpa using him), List.getElem?_replicate, if_pos him]
    rw [List.getElem?_append_right (by simp; omega), List.getElem?_replicate, List.length_replicate]
    by_cases his : i < ops.size
    ·rw [if_pos (by omega)]
     have := hm i (by omega)
     have hl' : i < listed.size := by omega
     rw [Array.getElem?_eq_getElem hl'] at this ⊢
     cases hb : listed[i] with
     | true => rw [hb] at this; exact absurd rfl this
     | false => rfl
    rw [if_neg (by omega), Array.getElem?_eq_none (by omega)]
   rw [h1, List.count_append, List.count_replicate, List.count_replicate] at hc
   simp at hc
   omega
  subst hfuel
  exact wpAnyIn_chain hold hchain (ops.size - m) m listed _ w (Nat.le_refl _) (by omega) hsz hl hm (fin vs w (by have h := getD_ft.2 (hl j0 hj0); rw [h] at hC; exact hC) (fun i hi => hE i (hl i hi)) (fun i hi => hU i (hm i hi)))
 induction fuel with
 | zero =>
  intro listed vs w hsz hc hcl hE hU hm hC
  refine done 0 listed vs w hsz hc (fun i hi => ?_) hE hU hm hC
  have := count_zero hc (i := i) (by rw [Array.length_toList, hsz]; omega)
  simpa using this
 | succ fuel ih =>
  intro listed vs w hsz hc hcl hE hU hm hC
  by_cases hl : ∀ i : Nat, i < m → listed[i]? = some true
  ·exact done _ listed vs w hsz hc hl hE hU hm hC
  obtain ⟨i0, hi0, hn0⟩ : ∃ i, i < m ∧ listed[i]? ≠ some true := Classical.byContradiction fun h => hl fun i hi => Classical.byContradiction fun h2 => h ⟨i, hi, h2⟩
  have hfalse : ∀ i : Nat, i < ops.size → listed[i]? ≠ some true → listed[i]? = some false := fun i hi h => by
   have hl' : i < listed.size := by omega
   rw [Array.getElem?_eq_getElem hl'] at h ⊢
   cases hb : listed[i] with
   | true => rw [hb] at h; exact absurd rfl h
   | false => rfl
  refine ⟨fun h0 => ?_, fun j hj => ?_⟩
  ·exfalso
   have key : ∀ i : Nat, i < ops.size → listed[i]? = some true := by
    intro i
    induction i using Nat.strongRecOn with
    | _ i ihi =>
     intro hi
     refine Classical.byContradiction fun h => ?_
     have hmem : i ∈ Region.ready .any ops listed := mem_ready.2 ⟨getD_tf.2 (hfalse i hi h), ops[i], Array.getElem?_eq_getElem hi, fun e he hbind => getD_ft.2 (by
      have := hold i _ (Array.getElem?_eq_getElem hi) _ (mem_waits.2 ⟨e, he, hbind, rfl⟩)
      exact ihi _ this (by omega))⟩
     rw [h0] at hmem
     cases hmem
   exact hn0 (key i0 (by omega))
  obtain ⟨hjf, o, ho, hw⟩ := mem_ready.1 hj
  rw [getD_tf] at hjf
  have hjs : j < ops.size := (Array.getElem?_eq_some_iff.1 ho).1
  have hwl : ∀ i, i ∈ waits o → listed[i]? = some true := fun i hi => by
   obtain ⟨e, he, hb, rfl⟩ := mem_waits.1 hi
   exact getD_ft.1 (hw e he hb)
  have hjm : j < m := by
   rcases Nat.lt_trichotomy j m with h1 | h1 | h1
   ·exact h1
   ·exfalso
    subst h1
    have hothers : ∀ (d i : Nat), i < j → i + d = j → listed[i]? = some true := by
     intro d
     induction d using Nat.strongRecOn with
     | _ d ihd =>
      intro i hi hid
      rcases hg3 i hi with h | ⟨k, hk, hk2⟩
      ·omega
      obtain ⟨hik, hkw⟩ := hk2
      have hks : k < ops.size := by omega
      rw [Array.getElem?_eq_getElem hks] at hkw
      simp only [Option.map_some, Option.getD_some, List.contains_iff_mem] at hkw
      rcases Nat.lt_or_ge k j with h2 | h2
      ·have := ihd (j - k) (by omega) k h2 (by omega)
       exact hcl k _ this (Array.getElem?_eq_getElem hks) i hkw
      have hkj : k = j := by omega
      subst hkj
      rw [Array.getElem?_eq_getElem hks] at ho
      cases ho
      exact hwl i hkw
    exact hn0 (hothers (j - i0) i0 hi0 (by omega))
   exfalso
   obtain ⟨i, rfl⟩ : ∃ i, j = i + 1 := ⟨j - 1, by omega⟩
   exact hm i (by omega) (hwl i (hchain i o (by omega) ho))
  have hcount : (listed.setIfInBounds j true).toList.count false = fuel := by
   have h1 : listed.toList[j]? = some false := by simpa using hjf
   have := count_set h1
   rw [Array.toList_setIfInBounds]
   omega
  have hsz' : (listed.setIfInBounds j true).size = ops.size := by simpa using hsz
  have hget' : ∀ i : Nat, (listed.setIfInBounds j true)[i]? = if i = j then some true else listed[i]? := fun i => by
   rw [Array.getElem?_setIfInBounds]
   by_cases h : j = i
   ·subst h; rw [if_pos rfl, if_pos rfl, if_pos (by omega)]
   rw [if_neg h, if_neg (fun e => h e.symm)]
  have hput : ∀ v, (fillA ops.toList 0 vs a0).put o.dst v = fillA ops.toList 0 (updV vs j v) a0 := fun v => by
   have := fillA_put ops.toList 0 vs a0 j o v (by simpa using ho) (fun i o' hij hi => hdst i j o o' hi (by simpa using ho) hij)
   simpa using this
  have hvj : vs j = slot0 ops a0 j := hU j (by rw [hjf]; simp)
  have hst := step j o hjm ho (listed.getD j0 false) vs w (fun e => by subst e; rw [Array.getD_eq_getD_getElem?, hjf]; rfl) hC (fun i hi => hE i (hwl i hi)) (fun i o' ho' hi => hU i (fun hl => by
   have := hcl i o' hl ho' j hi
   rw [hjf] at this; cases this)) hvj
  have hflag : (listed.setIfInBounds j true).getD j0 false = (if j = j0 then true else listed.getD j0 false) := by
   rw [Array.getD_eq_getD_getElem?, hget', Array.getD_eq_getD_getElem?]
   by_cases e : j0 = j
   ·subst e; simp
   rw [if_neg e, if_neg (fun h => e h.symm)]
  have hnext : ∀ v w', C (if j = j0 then true else listed.getD j0 false) w' → (∀ i : Nat, listed[i]? = some true → E i (vs i) w') → E j v w' → wpAnyIn F n P .any ops Q fuel (listed.setIfInBounds j true) ((fillA ops.toList 0 vs a0).put o.dst v) w' := fun v w' hC' hEs hv => by
   rw [hput]
   refine ih _ _ _ hsz' hcount ?_ ?_ ?_ ?_ (by rw [hflag]; exact hC')
   ·intro i o' hi ho' k hk
    rw [hget'] at hi ⊢
    by_cases hkj : k = j
    ·rw [if_pos hkj]
    rw [if_neg hkj]
    by_cases hij : i = j
    ·subst hij
     rw [ho] at ho'; cases ho'
     exact hwl k hk
    rw [if_neg hij] at hi
    exact hcl i o' hi ho' k hk
   ·intro i hi
    rw [hget'] at hi
    by_cases hij : i = j
    ·subst hij; simpa [updV] using hv
    rw [if_neg hij] at hi
    rw [show updV vs j v i = vs i by simp [updV, hij]]
    exact hEs i hi
   ·intro i hi
    rw [hget'] at hi
    by_cases hij : i = j
    ·rw [if_pos hij] at hi; exact absurd rfl hi
    rw [if_neg hij] at hi
    rw [show updV vs j v i = vs i by simp [updV, hij]]
    exact hU i hi
   intro i hi
   rw [hget', if_neg (by omega)]; exact hm i hi
  unfold wpOpIn
  simp only [ho]
  split
  ·rename_i hwant
   simp only [hwant, if_true] at hst
   refine Oper.wpIn_mono ?_ (Oper.wpIn_of_wp hF (hsem j o ho) hst)
   rintro a' w' ⟨v, rfl, hC', hX, hv⟩
   exact hnext v w' hC' (fun i hi => stab _ i _ _ _ (fun e => by subst e; exact getD_ft.2 hi) hC hX (hE i hi)) hv
  rename_i hwant
  simp only [hwant, if_false, Bool.false_eq_true] at hst
  exact ⟨fun f _ => by subst hF; trivial, hnext undef w hst.1 hE hst.2⟩
section
variable (P : Program) (ops : Array Oper) (C : Bool → World → Prop) (X : Bool → World → World → Prop) (full : List (Value → World → Prop)) (Q : Exit → Act → World → Prop) (a0 : Act) (j0 : Nat)
def StepA2 (p : Value → World → Prop) (j : Nat) (o : Oper) : Prop :=
 ∀ (b : Bool) (vs : Nat → Value) (a : Act) (w : World) (K : Act → World → Prop), a = fillA ops.toList 0 vs a0 → (j = j0 → b = false) → C b w → (∀ i ∈ waits o, envOf full i (vs i) w) → (∀ (i : Nat) (o' : Oper), ops[i]? = some o' → j ∈ waits o' → vs i = slot0 ops a0 i) →
  (∀ v w', C (if j = j0 then true else b) w' → X b w w' → p v w' → K (a.put o.dst v) w') → (Region.wanted o (yielded ops a.tmps) = true ∧ o.wp P a w K Q)
def StepsL2 : List Oper → List (Value → World → Prop) → Nat → Prop
 | [], _, _ => True
 | o :: l, p :: ps, k => StepA2 P ops C X full Q a0 j0 p k o ∧ StepsL2 l ps (k + 1)
 | _ :: _, [], _ => False
end
section
variable {P : Program} {ops : Array Oper} {C : Bool → World → Prop} {X : Bool → World → World → Prop} {full : List (Value → World → Prop)} {Q : Exit → Act → World → Prop} {a0 : Act} {j0 : Nat}
theorem StepsL2.nil {ps : List (Value → World → Prop)} {k : Nat} : StepsL2 P ops C X full Q a0 j0 [] ps k := by unfold StepsL2; trivial
theorem StepsL2.cons {p : Value → World → Prop} {ps : List (Value → World → Prop)} {o : Oper} {l : List Oper} {k : Nat} (h : StepA2 P ops C X full Q a0 j0 p k o) (hl : StepsL2 P ops C X full Q a0 j0 l ps (k + 1)) : StepsL2 P ops C X full Q a0 j0 (o :: l) (p :: ps) k := ⟨h, hl⟩
theorem StepsL2.get : ∀ {l : List Oper} {ps : List (Value → World → Prop)} {k : Nat}, StepsL2 P ops C X full Q a0 j0 l ps k → ps = full.drop k → ∀ {j : Nat} {o : Oper}, l[j]? = some o → StepE2 P ops C X (envOf full) Q a0 j0 (k + j) o := by
 intro l
 induction l with
 | nil => intro ps k _ _ j o h; simp at h
 | cons x l ih =>
  intro ps k h hps j o hj
  cases ps with
  | nil => exact h.elim
  | cons p ps =>
   cases j with
   | zero =>
    simp at hj; subst hj
    have hp : envOf full k = p := by
     have h0 : full[k]? = some p := by
      have := congrArg (fun l : List (Value → World → Prop) => l[0]?) hps
      simpa using this.symm
     funext v w
     unfold envOf
     rw [List.getD_eq_getElem?_getD, h0]; rfl
    intro b vs w hb hC hD hU hv
    obtain ⟨h1, h2⟩ := h.1 b vs _ w (fun a' w' => ∃ v, a' = (fillA ops.toList 0 vs a0).put x.dst v ∧ C (if k = j0 then true else b) w' ∧ X b w w' ∧ envOf full k v w') rfl hb hC hD hU (fun v w' hC' hX hpv => ⟨v, rfl, hC', hX, by rw [hp]; exact hpv⟩)
    rw [Nat.add_zero, if_pos h1]
    exact h2
   | succ j =>
    have hps' : ps = full.drop (k + 1) := by
     have := congrArg List.tail hps
     simpa using this
    have := ih h.2 hps' (j := j) (o := o) (by simpa using hj)
    rw [show k + (j + 1) = k + 1 + j by omega]; exact this
end
theorem wp_region_two {id : Nat} {P : Program} {ops : Array Oper} {Q : Exit → Act → World → Prop} {a0 : Act} {w0 : World} (j0 : Nat) (C : Bool → World → Prop) (X : Bool → World → World → Prop) (full : List (Value → World → Prop))
  (hP : P.follows .mixedOrders = true) (hd : noDefB ops = true) (hgood : goodB ops full.length = true) (hm1 : full.length ≤ ops.size) (hm2 : ops.size ≤ full.length + 1) (hj0 : j0 < full.length) (hC : C false { w0 with drawn := w0.drawn + 1 })
  (stab : ∀ (b : Bool) (i : Nat) (p : Value → World → Prop) (v : Value) (w w' : World), full[i]? = some p → (i = j0 → b = true) → C b w → X b w w' → p v w → p v w')
  (step : StepsL2 P ops C X full Q a0 j0 (ops.toList.take full.length) full 0) (fin : Fin1 P ops (C true) (envOf full) Q a0 full.length) : (Code.region id ops true).wp P Q a0 w0 := by
 refine (wpIn_wide (n := 0)).1 (wpIn_region_any hP ?_)
 have h := wpAnyIn_env2 (F := Fence.wide) (r := none) rfl (n := 0) (P := P) (ops := ops) (C := C) (X := X) (E := envOf full) (Q := Q) (a0 := a0) (m := full.length) (j0 := j0) hj0 (fun j o ho ρ => noDefB_sem hd ho ρ) hgood hm1
  (fun b i v w w' hi hC hX hE => by
   unfold envOf at hE ⊢
   rw [List.getD_eq_getElem?_getD] at hE ⊢
   cases hfi : full[i]? with
   | none => rw [hfi] at hE; exact hE
   | some p => rw [hfi] at hE; exact stab b i p v w w' hfi hi hC hX hE)
  (fun j o hj ho => by have := step.get (ps := full) rfl (j := j) (o := o) (by rw [List.getElem?_take, if_pos hj]; simpa using ho); simpa using this) (Fin1.fin rfl hd hm1 hm2 fin)
  ops.size (Array.replicate ops.size false) (slot0 ops a0) { w0 with drawn := w0.drawn + 1 } (by simp) (by simp) ?_ ?_ (fun _ _ => rfl) ?_ (by
   have : (Array.replicate ops.size false).getD j0 false = false := by
    rw [Array.getD_eq_getD_getElem?, Array.getElem?_replicate]; split <;> rfl
   rw [this]; exact hC)
 ·rw [fillA_slot0] at h; exact h
 ·intro j o hj; rw [Array.getElem?_replicate] at hj; split at hj <;> cases hj
 ·intro j hj; rw [Array.getElem?_replicate] at hj; split at hj <;> cases hj
 intro i _ hj; rw [Array.getElem?_replicate] at hj; split at hj <;> cases hj
def NewEl (row : Option Nat) (t : TypeId) (cs : Array Value) (v : Value) (W : World) : Prop := ∃ g, v = .slice (some ⟨g, 0, none⟩) 1 1 ∧ Blk W g t cs ∧ row ≠ some g
theorem NewEl.keep {row : Option Nat} {t : TypeId} {cs : Array Value} {v : Value} {W V : World} {bb : Bool} (h : NewEl row t cs v W) (hk : Kept (fun j => bb = false ∧ row = some j) W V) : NewEl row t cs v V := by
 obtain ⟨g, hv, hB, hne⟩ := h
 exact ⟨g, hv, (hk.block g hB.lt (fun e => hne e.2)).trans hB, hne⟩
def GrownV {α : Type} (R : Rd α) (m : Nat) (S : Foot) (base : Nat) (e : TypeId) (n : Nat) (xs : List α) (v : Value) (W : World) : Prop := ∃ A cap, v = .slice (some ⟨A, 0, none⟩) n cap ∧ OwnL R m S W base e v xs
theorem GrownV.keep {α : Type} {R : Rd α} {m : Nat} {S : Foot} {base : Nat} {e : TypeId} {n : Nat} {xs : List α} {v : Value} {W V : World} {bb : Bool} {row : Option Nat} (g : R.Good m) (h : GrownV R m S base e n xs v W) (hb : bb = true) (hk : Kept (fun j => bb = false ∧ row = some j) W V) : GrownV R m S base e n xs v V := by
 obtain ⟨A, cap, hv, hO⟩ := h
 subst hb
 exact ⟨A, cap, hv, hO.keep g (hk.keeps (fun k _ h => by cases h.1))⟩
def Around {α : Type} (R : Rd α) (m : Nat) (S : Foot) (base : Nat) (e : TypeId) (v : Value) (xs : List α) (w : World) (bb : Bool) (W : World) : Prop := Kept (fun j => v.ownBlock = some j) w W ∧ (bb = false → OwnL R m S W base e v xs)
theorem Around.quiet {α : Type} {R : Rd α} {m : Nat} {S : Foot} {base : Nat} {e : TypeId} {v : Value} {xs : List α} {w W V : World} {bb : Bool} (g : R.Good m) (h : Around R m S base e v xs w bb W) (hb : Below W.heap.size W V) : Around R m S base e v xs w bb V :=
 ⟨h.1.trans (Kept.of_bl hb), fun e => (h.2 e).below g hb⟩
theorem wp_append_el {P : Program} {o : Oper} {a : Act} {K : Act → World → Prop} {Q : Exit → Act → World → Prop} (w : World) (hgd : o.guard = none) (s x : Operand) (t : TypeId)
  (ho : o.op = .call { callee := .builtin .append, args := #[s, x], argTypes := #[t, t] })
  {α : Type} {R : Rd α} {m : Nat} (g : R.Good m) {S : Foot} (base : Nat) (e : TypeId) (i : TypeInfo) (z : Value) (bytes : Nat) (ht : P.underlying t = some (.slice e)) (hi : P.info? e = some i) (hz : i.zero = some z)
  (hsize : i.size = m) (hby : i.bytes = bytes) (hzs : z.cells.size = m) (hsz : 0 < m)
  (v : Value) (xs : List α) (y : α) (n : Nat) (hn : xs.length = n) (hs : a.eval s = v) (hown : OwnL R m S w base e v xs)
  (gb c : Nat) (news : List Value) (hx : a.eval x = .slice (some ⟨gb, 0, none⟩) 1 c) (hR : R S w y news) (hB : Blk w gb e news.toArray)
  (h63 : n + 1 ≤ maxLen) (hbytes : (n + 1) * bytes ≤ 140737488355328) (hbase : base ≤ w.heap.size) (hS : ¬ S w.heap.size)
  (h : ∀ A' cap' w', OwnL R m S w' base e (.slice (some ⟨A', 0, none⟩) (n + 1) cap') (xs ++ [y]) → w.grownBy w' v.ownBlock → K (a.put o.dst (.slice (some ⟨A', 0, none⟩) (n + 1) cap')) w') : o.wp P a w K Q := by
 have hw : Region.wanted o (yielded #[] a.tmps) = true := by simp [Region.wanted, hgd]
 have := step_append_n (P := P) (ops := #[]) (o := o) (a := a) (K := K) (Q := Q) (E := True) w hgd s x t ho g base e i z bytes ht hi hz hsize hby hzs hsz v xs y n hn hs hown ⟨gb, 0, none⟩ c news hx hR (fun j u hu => by
  have hadd : (⟨gb, 0, none⟩ : Addr).add j = ⟨gb, j, none⟩ := by unfold Addr.add; split <;> simp_all
  rw [hadd, hB.cell j]; simpa using hu) h63 hbytes hbase hS (fun A' cap' w' h1 h2 _ => h A' cap' w' h1 h2)
 rw [if_pos hw] at this
 exact this
end Go.Proofs.YtdbfincinjoppaaGreat
