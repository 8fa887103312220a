/- A region that draws its order and holds ONE operation that turns what the others stand on (an append to a slice that is loaded and stored there): two classes of worlds, ahead of it and behind it. Nothing of a program stands here. -/
import Derived.Test.YtkbpmcpmcmnfgaaDoorCFewer
import Derived.Test.YtkbpmcpmcmnfgaaDoorCLaw1
import Derived.Test.YtkbpmcpmcmnfgaaDoorCRange
set_option linter.unusedVariables false
set_option linter.unusedSimpArgs false
set_option linter.all false
namespace Go.Proofs.YtkbpmcpmcmnfgaaDoor
open Go.RowKit

/-- what is asked of one operation, ahead of number j0 and behind it -/
def StepE2 (P : Program) (ops : Array Oper) (C : Bool → World → Prop) (X : Bool → World → World → Prop) (E : Nat → Value → World → Prop) (Q : Exit → Act → World → Prop) (a0 : Act) (j0 j : Nat) (o : Oper) : Prop :=
  ∀ (b : Bool) (vs : Nat → Value) (w : World), (j = j0 → b = false) → C b w → (∀ i ∈ waits o, E i (vs i) w) → (∀ (i : Nat) (o' : Oper), ops[i]? = some o' → j ∈ waits o' → vs i = slot0 ops a0 i) → vs j = slot0 ops a0 j →
    if Region.wanted o (yielded ops (fillA ops.toList 0 vs a0).tmps) = true then
      o.wp P (fillA ops.toList 0 vs a0) w (fun a' w' => ∃ v, a' = (fillA ops.toList 0 vs a0).put o.dst v ∧ C (if j = j0 then true else b) w' ∧ X b w w' ∧ E j v w') Q
    else C (if j = j0 then true else b) w ∧ E j undef w

theorem wpAnyIn_env2 {F : Fence} {r : Option Nat} (hF : F = { Fence.wide with round := r }) {n : Nat} {P : Program} {ops : Array Oper} {C : Bool → World → Prop} {X : Bool → World → World → Prop} {E : Nat → Value → World → Prop} {Q : Exit → Act → World → Prop} {a0 : Act} {m j0 : Nat} (hj0 : j0 < m)
    (hsem : ∀ (j : Nat) (o : Oper), ops[j]? = some o → ∀ ρ, o.semAt r ρ = execOp ρ o) (hgood : goodB ops m = true) (hm1 : m ≤ ops.size)
    (stab : ∀ b i v w w', (i = j0 → b = true) → C b w → X b w w' → E i v w → E i v w')
    (step : ∀ (j : Nat) (o : Oper), j < m → ops[j]? = some o → StepE2 P ops C X E Q a0 j0 j o) (fin : FinE F n P ops (C true) E Q a0 m) :
    ∀ (fuel : Nat) (listed : Array Bool) (vs : Nat → Value) (w : World), listed.size = ops.size → listed.toList.count false = fuel →
      (∀ (j : Nat) (o : Oper), listed[j]? = some true → ops[j]? = some o → ∀ i, i ∈ waits o → listed[i]? = some true) →
      (∀ i : Nat, listed[i]? = some true → E i (vs i) w) → (∀ i : Nat, listed[i]? ≠ some true → vs i = slot0 ops a0 i) → (∀ i : Nat, m ≤ i → listed[i]? ≠ some true) → C (listed.getD j0 false) w →
      wpAnyIn F n P .any ops Q fuel listed (fillA ops.toList 0 vs a0) w := by
  simp only [goodB, Bool.and_eq_true, List.all_eq_true, List.mem_range, decide_eq_true_eq, Bool.or_eq_true, List.any_eq_true] at hgood
  obtain ⟨⟨⟨hg1, hg2⟩, hg3⟩, hg4⟩ := hgood
  have hold : ∀ (j : Nat) (o : Oper), ops[j]? = some o → ∀ i, i ∈ waits o → i < j := fun j o ho i hi => by
    have hj : j < ops.size := (Array.getElem?_eq_some_iff.1 ho).1
    have := hg1 j hj
    rw [ho] at this
    simp only [Option.map_some, Option.getD_some, List.all_eq_true, decide_eq_true_eq] at this
    exact this i hi
  have hchain : ∀ (i : Nat) (o : Oper), m ≤ i → ops[i + 1]? = some o → i ∈ waits o := fun i o hmi ho => by
    have hi := (Array.getElem?_eq_some_iff.1 ho).1
    rcases hg4 i (by omega) with h | h
    · omega
    · rw [ho] at h; simpa using h
  have hdst := nodup_dst hg2
  intro fuel
  -- all ahead of m are listed: the chain
  have done : ∀ (fuel : Nat) (listed : Array Bool) (vs : Nat → Value) (w : World), listed.size = ops.size → listed.toList.count false = fuel → (∀ i : Nat, i < m → listed[i]? = some true) →
      (∀ i : Nat, listed[i]? = some true → E i (vs i) w) → (∀ i : Nat, listed[i]? ≠ some true → vs i = slot0 ops a0 i) → (∀ i : Nat, m ≤ i → listed[i]? ≠ some true) → C (listed.getD j0 false) w →
      wpAnyIn F n P .any ops Q fuel listed (fillA ops.toList 0 vs a0) w := by
    intro fuel listed vs w hsz hc hl hE hU hm hC
    have hfuel : fuel = ops.size - m := by
      have h1 : listed.toList = List.replicate m true ++ List.replicate (ops.size - m) false := by
        apply List.ext_getElem?
        intro i
        rw [Array.getElem?_toList]
        by_cases him : i < m
        · rw [hl i him, List.getElem?_append_left (by simpa using him), List.getElem?_replicate, if_pos him]
        · rw [List.getElem?_append_right (by simp; omega), List.getElem?_replicate, List.length_replicate]
          by_cases his : i < ops.size
          · rw [if_pos (by omega)]
            have := hm i (by omega)
            have hl' : i < listed.size := by omega
            rw [Array.getElem?_eq_getElem hl'] at this ⊢
            cases hb : listed[i] with
            | true => rw [hb] at this; exact absurd rfl this
            | false => rfl
          · rw [if_neg (by omega), Array.getElem?_eq_none (by omega)]
      rw [h1, List.count_append, List.count_replicate, List.count_replicate] at hc
      simp at hc
      omega
    subst hfuel
    exact wpAnyIn_chain hold hchain (ops.size - m) m listed _ w (Nat.le_refl _) (by omega) hsz hl hm (fin vs w (by have h := getD_ft.2 (hl j0 hj0); rw [h] at hC; exact hC) (fun i hi => hE i (hl i hi)) (fun i hi => hU i (hm i hi)))
  induction fuel with
  | zero =>
    intro listed vs w hsz hc hcl hE hU hm hC
    refine done 0 listed vs w hsz hc (fun i hi => ?_) hE hU hm hC
    have := count_zero hc (i := i) (by rw [Array.length_toList, hsz]; omega)
    simpa using this
  | succ fuel ih =>
    intro listed vs w hsz hc hcl hE hU hm hC
    by_cases hl : ∀ i : Nat, i < m → listed[i]? = some true
    · exact done _ listed vs w hsz hc hl hE hU hm hC
    -- one ahead of m is still to come
    obtain ⟨i0, hi0, hn0⟩ : ∃ i, i < m ∧ listed[i]? ≠ some true := Classical.byContradiction fun h => hl fun i hi => Classical.byContradiction fun h2 => h ⟨i, hi, h2⟩
    have hfalse : ∀ i : Nat, i < ops.size → listed[i]? ≠ some true → listed[i]? = some false := fun i hi h => by
      have hl' : i < listed.size := by omega
      rw [Array.getElem?_eq_getElem hl'] at h ⊢
      cases hb : listed[i] with
      | true => rw [hb] at h; exact absurd rfl h
      | false => rfl
    refine ⟨fun h0 => ?_, fun j hj => ?_⟩
    · exfalso
      have key : ∀ i : Nat, i < ops.size → listed[i]? = some true := by
        intro i
        induction i using Nat.strongRecOn with
        | _ i ihi =>
          intro hi
          refine Classical.byContradiction fun h => ?_
          have hmem : i ∈ Region.ready .any ops listed := mem_ready.2 ⟨getD_tf.2 (hfalse i hi h), ops[i], Array.getElem?_eq_getElem hi, fun e he hbind => getD_ft.2 (by
            have := hold i _ (Array.getElem?_eq_getElem hi) _ (mem_waits.2 ⟨e, he, hbind, rfl⟩)
            exact ihi _ this (by omega))⟩
          rw [h0] at hmem
          cases hmem
      exact hn0 (key i0 (by omega))
    · obtain ⟨hjf, o, ho, hw⟩ := mem_ready.1 hj
      rw [getD_tf] at hjf
      have hjs : j < ops.size := (Array.getElem?_eq_some_iff.1 ho).1
      have hwl : ∀ i, i ∈ waits o → listed[i]? = some true := fun i hi => by
        obtain ⟨e, he, hb, rfl⟩ := mem_waits.1 hi
        exact getD_ft.1 (hw e he hb)
      have hjm : j < m := by
        rcases Nat.lt_trichotomy j m with h1 | h1 | h1
        · exact h1
        · exfalso
          subst h1
          have hothers : ∀ (d i : Nat), i < j → i + d = j → listed[i]? = some true := by
            intro d
            induction d using Nat.strongRecOn with
            | _ d ihd =>
              intro i hi hid
              rcases hg3 i hi with h | ⟨k, hk, hk2⟩
              · omega
              · obtain ⟨hik, hkw⟩ := hk2
                have hks : k < ops.size := by omega
                rw [Array.getElem?_eq_getElem hks] at hkw
                simp only [Option.map_some, Option.getD_some, List.contains_iff_mem] at hkw
                rcases Nat.lt_or_ge k j with h2 | h2
                · have := ihd (j - k) (by omega) k h2 (by omega)
                  exact hcl k _ this (Array.getElem?_eq_getElem hks) i hkw
                · have hkj : k = j := by omega
                  subst hkj
                  rw [Array.getElem?_eq_getElem hks] at ho
                  cases ho
                  exact hwl i hkw
          exact hn0 (hothers (j - i0) i0 hi0 (by omega))
        · exfalso
          obtain ⟨i, rfl⟩ : ∃ i, j = i + 1 := ⟨j - 1, by omega⟩
          exact hm i (by omega) (hwl i (hchain i o (by omega) ho))
      have hcount : (listed.setIfInBounds j true).toList.count false = fuel := by
        have h1 : listed.toList[j]? = some false := by simpa using hjf
        have := count_set h1
        rw [Array.toList_setIfInBounds]
        omega
      have hsz' : (listed.setIfInBounds j true).size = ops.size := by simpa using hsz
      have hget' : ∀ i : Nat, (listed.setIfInBounds j true)[i]? = if i = j then some true else listed[i]? := fun i => by
        rw [Array.getElem?_setIfInBounds]
        by_cases h : j = i
        · subst h; rw [if_pos rfl, if_pos rfl, if_pos (by omega)]
        · rw [if_neg h, if_neg (fun e => h e.symm)]
      have hput : ∀ v, (fillA ops.toList 0 vs a0).put o.dst v = fillA ops.toList 0 (updV vs j v) a0 := fun v => by
        have := fillA_put ops.toList 0 vs a0 j o v (by simpa using ho) (fun i o' hij hi => hdst i j o o' hi (by simpa using ho) hij)
        simpa using this
      have hvj : vs j = slot0 ops a0 j := hU j (by rw [hjf]; simp)
      have hst := step j o hjm ho (listed.getD j0 false) vs w (fun e => by subst e; rw [Array.getD_eq_getD_getElem?, hjf]; rfl) hC (fun i hi => hE i (hwl i hi)) (fun i o' ho' hi => hU i (fun hl => by
        have := hcl i o' hl ho' j hi
        rw [hjf] at this; cases this)) hvj
      have hflag : (listed.setIfInBounds j true).getD j0 false = (if j = j0 then true else listed.getD j0 false) := by
        rw [Array.getD_eq_getD_getElem?, hget', Array.getD_eq_getD_getElem?]
        by_cases e : j0 = j
        · subst e; simp
        · rw [if_neg e, if_neg (fun h => e h.symm)]
      have hnext : ∀ v w', C (if j = j0 then true else listed.getD j0 false) w' → (∀ i : Nat, listed[i]? = some true → E i (vs i) w') → E j v w' → wpAnyIn F n P .any ops Q fuel (listed.setIfInBounds j true) ((fillA ops.toList 0 vs a0).put o.dst v) w' := fun v w' hC' hEs hv => by
        rw [hput]
        refine ih _ _ _ hsz' hcount ?_ ?_ ?_ ?_ (by rw [hflag]; exact hC')
        · intro i o' hi ho' k hk
          rw [hget'] at hi ⊢
          by_cases hkj : k = j
          · rw [if_pos hkj]
          · rw [if_neg hkj]
            by_cases hij : i = j
            · subst hij
              rw [ho] at ho'; cases ho'
              exact hwl k hk
            · rw [if_neg hij] at hi
              exact hcl i o' hi ho' k hk
        · intro i hi
          rw [hget'] at hi
          by_cases hij : i = j
          · subst hij; simpa [updV] using hv
          · rw [if_neg hij] at hi
            rw [show updV vs j v i = vs i by simp [updV, hij]]
            exact hEs i hi
        · intro i hi
          rw [hget'] at hi
          by_cases hij : i = j
          · rw [if_pos hij] at hi; exact absurd rfl hi
          · rw [if_neg hij] at hi
            rw [show updV vs j v i = vs i by simp [updV, hij]]
            exact hU i hi
        · intro i hi
          rw [hget', if_neg (by omega)]; exact hm i hi
      unfold wpOpIn
      simp only [ho]
      split
      · rename_i hwant
        simp only [hwant, if_true] at hst
        refine Oper.wpIn_mono ?_ (Oper.wpIn_of_wp hF (hsem j o ho) hst)
        rintro a' w' ⟨v, rfl, hC', hX, hv⟩
        exact hnext v w' hC' (fun i hi => stab _ i _ _ _ (fun e => by subst e; exact getD_ft.2 hi) hC hX (hE i hi)) hv
      · rename_i hwant
        simp only [hwant, if_false, Bool.false_eq_true] at hst
        exact ⟨fun f _ => by subst hF; trivial, hnext undef w hst.1 hE hst.2⟩


section
variable (P : Program) (ops : Array Oper) (C : Bool → World → Prop) (X : Bool → World → World → Prop) (full : List (Value → World → Prop)) (Q : Exit → Act → World → Prop) (a0 : Act) (j0 : Nat)
/-- one operation keeps its promise; its frame is a letter -/
def StepA2 (p : Value → World → Prop) (j : Nat) (o : Oper) : Prop :=
  ∀ (b : Bool) (vs : Nat → Value) (a : Act) (w : World) (K : Act → World → Prop), a = fillA ops.toList 0 vs a0 → (j = j0 → b = false) → C b w → (∀ i ∈ waits o, envOf full i (vs i) w) → (∀ (i : Nat) (o' : Oper), ops[i]? = some o' → j ∈ waits o' → vs i = slot0 ops a0 i) →
    (∀ v w', C (if j = j0 then true else b) w' → X b w w' → p v w' → K (a.put o.dst v) w') → (Region.wanted o (yielded ops a.tmps) = true ∧ o.wp P a w K Q)
def StepsL2 : List Oper → List (Value → World → Prop) → Nat → Prop
  | [], _, _ => True
  | o :: l, p :: ps, k => StepA2 P ops C X full Q a0 j0 p k o ∧ StepsL2 l ps (k + 1)
  | _ :: _, [], _ => False
end
section
variable {P : Program} {ops : Array Oper} {C : Bool → World → Prop} {X : Bool → World → World → Prop} {full : List (Value → World → Prop)} {Q : Exit → Act → World → Prop} {a0 : Act} {j0 : Nat}
theorem StepsL2.nil {ps : List (Value → World → Prop)} {k : Nat} : StepsL2 P ops C X full Q a0 j0 [] ps k := by unfold StepsL2; trivial
theorem StepsL2.cons {p : Value → World → Prop} {ps : List (Value → World → Prop)} {o : Oper} {l : List Oper} {k : Nat} (h : StepA2 P ops C X full Q a0 j0 p k o) (hl : StepsL2 P ops C X full Q a0 j0 l ps (k + 1)) : StepsL2 P ops C X full Q a0 j0 (o :: l) (p :: ps) k := ⟨h, hl⟩
theorem StepsL2.get : ∀ {l : List Oper} {ps : List (Value → World → Prop)} {k : Nat}, StepsL2 P ops C X full Q a0 j0 l ps k → ps = full.drop k → ∀ {j : Nat} {o : Oper}, l[j]? = some o → StepE2 P ops C X (envOf full) Q a0 j0 (k + j) o := by
  intro l
  induction l with
  | nil => intro ps k _ _ j o h; simp at h
  | cons x l ih =>
    intro ps k h hps j o hj
    cases ps with
    | nil => exact h.elim
    | cons p ps =>
      cases j with
      | zero =>
        simp at hj; subst hj
        have hp : envOf full k = p := by
          have h0 : full[k]? = some p := by
            have := congrArg (fun l : List (Value → World → Prop) => l[0]?) hps
            simpa using this.symm
          funext v w
          unfold envOf
          rw [List.getD_eq_getElem?_getD, h0]; rfl
        intro b vs w hb hC hD hU hv
        obtain ⟨h1, h2⟩ := h.1 b vs _ w (fun a' w' => ∃ v, a' = (fillA ops.toList 0 vs a0).put x.dst v ∧ C (if k = j0 then true else b) w' ∧ X b w w' ∧ envOf full k v w') rfl hb hC hD hU (fun v w' hC' hX hpv => ⟨v, rfl, hC', hX, by rw [hp]; exact hpv⟩)
        rw [Nat.add_zero, if_pos h1]
        exact h2
      | succ j =>
        have hps' : ps = full.drop (k + 1) := by
          have := congrArg List.tail hps
          simpa using this
        have := ih h.2 hps' (j := j) (o := o) (by simpa using hj)
        rw [show k + (j + 1) = k + 1 + j by omega]; exact this
end

/-- THE LAW, by a list of promises -/
theorem wp_region_two {id : Nat} {P : Program} {ops : Array Oper} {Q : Exit → Act → World → Prop} {a0 : Act} {w0 : World} (j0 : Nat) (C : Bool → World → Prop) (X : Bool → World → World → Prop) (full : List (Value → World → Prop))
    (hP : P.follows .mixedOrders = true) (hd : noDefB ops = true) (hgood : goodB ops full.length = true) (hm1 : full.length ≤ ops.size) (hm2 : ops.size ≤ full.length + 1) (hj0 : j0 < full.length) (hC : C false { w0 with drawn := w0.drawn + 1 })
    (stab : ∀ (b : Bool) (i : Nat) (p : Value → World → Prop) (v : Value) (w w' : World), full[i]? = some p → (i = j0 → b = true) → C b w → X b w w' → p v w → p v w')
    (step : StepsL2 P ops C X full Q a0 j0 (ops.toList.take full.length) full 0) (fin : Fin1 P ops (C true) (envOf full) Q a0 full.length) : (Code.region id ops true).wp P Q a0 w0 := by
  refine (wpIn_wide (n := 0)).1 (wpIn_region_any hP ?_)
  have h := wpAnyIn_env2 (F := Fence.wide) (r := none) rfl (n := 0) (P := P) (ops := ops) (C := C) (X := X) (E := envOf full) (Q := Q) (a0 := a0) (m := full.length) (j0 := j0) hj0 (fun j o ho ρ => noDefB_sem hd ho ρ) hgood hm1
    (fun b i v w w' hi hC hX hE => by
      unfold envOf at hE ⊢
      rw [List.getD_eq_getElem?_getD] at hE ⊢
      cases hfi : full[i]? with
      | none => rw [hfi] at hE; exact hE
      | some p => rw [hfi] at hE; exact stab b i p v w w' hfi hi hC hX hE)
    (fun j o hj ho => by have := step.get (ps := full) rfl (j := j) (o := o) (by rw [List.getElem?_take, if_pos hj]; simpa using ho); simpa using this) (Fin1.fin rfl hd hm1 hm2 fin)
    ops.size (Array.replicate ops.size false) (slot0 ops a0) { w0 with drawn := w0.drawn + 1 } (by simp) (by simp) ?_ ?_ (fun _ _ => rfl) ?_ (by
      have : (Array.replicate ops.size false).getD j0 false = false := by
        rw [Array.getD_eq_getD_getElem?, Array.getElem?_replicate]; split <;> rfl
      rw [this]; exact hC)
  · rw [fillA_slot0] at h; exact h
  · intro j o hj; rw [Array.getElem?_replicate] at hj; split at hj <;> cases hj
  · intro j hj; rw [Array.getElem?_replicate] at hj; split at hj <;> cases hj
  · intro i _ hj; rw [Array.getElem?_replicate] at hj; split at hj <;> cases hj

/-- a new slice of one element -/
def NewEl (row : Option Nat) (t : TypeId) (cs : Array Value) (v : Value) (W : World) : Prop := ∃ g, v = .slice (some ⟨g, 0, none⟩) 1 1 ∧ Blk W g t cs ∧ row ≠ some g
theorem NewEl.keep {row : Option Nat} {t : TypeId} {cs : Array Value} {v : Value} {W V : World} {bb : Bool} (h : NewEl row t cs v W) (hk : Kept (fun j => bb = false ∧ row = some j) W V) : NewEl row t cs v V := by
  obtain ⟨g, hv, hB, hne⟩ := h
  exact ⟨g, hv, (hk.block g hB.lt (fun e => hne e.2)).trans hB, hne⟩
/-- a slice of the call's own, grown to n -/
def GrownV {α : Type} (R : Rd α) (m : Nat) (S : Foot) (base : Nat) (e : TypeId) (n : Nat) (xs : List α) (v : Value) (W : World) : Prop := ∃ A cap, v = .slice (some ⟨A, 0, none⟩) n cap ∧ OwnL R m S W base e v xs
theorem GrownV.keep {α : Type} {R : Rd α} {m : Nat} {S : Foot} {base : Nat} {e : TypeId} {n : Nat} {xs : List α} {v : Value} {W V : World} {bb : Bool} {row : Option Nat} (g : R.Good m) (h : GrownV R m S base e n xs v W) (hb : bb = true) (hk : Kept (fun j => bb = false ∧ row = some j) W V) : GrownV R m S base e n xs v V := by
  obtain ⟨A, cap, hv, hO⟩ := h
  subst hb
  exact ⟨A, cap, hv, hO.keep g (hk.keeps (fun k _ h => by cases h.1))⟩
/-- the class of worlds around an append to an own slice -/
def Around {α : Type} (R : Rd α) (m : Nat) (S : Foot) (base : Nat) (e : TypeId) (v : Value) (xs : List α) (w : World) (bb : Bool) (W : World) : Prop := Kept (fun j => v.ownBlock = some j) w W ∧ (bb = false → OwnL R m S W base e v xs)
theorem Around.quiet {α : Type} {R : Rd α} {m : Nat} {S : Foot} {base : Nat} {e : TypeId} {v : Value} {xs : List α} {w W V : World} {bb : Bool} (g : R.Good m) (h : Around R m S base e v xs w bb W) (hb : Below W.heap.size W V) : Around R m S base e v xs w bb V :=
  ⟨h.1.trans (Kept.of_bl hb), fun e => (h.2 e).below g hb⟩
theorem wp_append_el {P : Program} {o : Oper} {a : Act} {K : Act → World → Prop} {Q : Exit → Act → World → Prop} (w : World) (hgd : o.guard = none) (s x : Operand) (t : TypeId)
    (ho : o.op = .call { callee := .builtin .append, args := #[s, x], argTypes := #[t, t] })
    {α : Type} {R : Rd α} {m : Nat} (g : R.Good m) {S : Foot} (base : Nat) (e : TypeId) (i : TypeInfo) (z : Value) (bytes : Nat) (ht : P.underlying t = some (.slice e)) (hi : P.info? e = some i) (hz : i.zero = some z)
    (hsize : i.size = m) (hby : i.bytes = bytes) (hzs : z.cells.size = m) (hsz : 0 < m)
    (v : Value) (xs : List α) (y : α) (n : Nat) (hn : xs.length = n) (hs : a.eval s = v) (hown : OwnL R m S w base e v xs)
    (gb c : Nat) (news : List Value) (hx : a.eval x = .slice (some ⟨gb, 0, none⟩) 1 c) (hR : R S w y news) (hB : Blk w gb e news.toArray)
    (h63 : n + 1 ≤ maxLen) (hbytes : (n + 1) * bytes ≤ 140737488355328) (hbase : base ≤ w.heap.size) (hS : ¬ S w.heap.size)
    (h : ∀ A' cap' w', OwnL R m S w' base e (.slice (some ⟨A', 0, none⟩) (n + 1) cap') (xs ++ [y]) → w.grownBy w' v.ownBlock → K (a.put o.dst (.slice (some ⟨A', 0, none⟩) (n + 1) cap')) w') : o.wp P a w K Q := by
  have hw : Region.wanted o (yielded #[] a.tmps) = true := by simp [Region.wanted, hgd]
  have := step_append_n (P := P) (ops := #[]) (o := o) (a := a) (K := K) (Q := Q) (E := True) w hgd s x t ho g base e i z bytes ht hi hz hsize hby hzs hsz v xs y n hn hs hown ⟨gb, 0, none⟩ c news hx hR (fun j u hu => by
    have hadd : (⟨gb, 0, none⟩ : Addr).add j = ⟨gb, j, none⟩ := by unfold Addr.add; split <;> simp_all
    rw [hadd, hB.cell j]; simpa using hu) h63 hbytes hbase hS (fun A' cap' w' h1 h2 _ => h A' cap' w' h1 h2)
  rw [if_pos hw] at this
  exact this

end Go.Proofs.YtkbpmcpmcmnfgaaDoor

namespace Go.Proofs.YtkbpmcpmcmnfgaaDoor
open Go.RowKit

theorem claim_bnd {S : Foot} {w : World} {A B C : Option Addr} {n m q : Nat} {c : Claim} (h : ClaimAt S w A n B m C q c) : ClaimAt (fun k => S k ∧ k < w.heap.size) w A n B m C q c :=
  ⟨h.fs.bound FeatR.good, h.cs.bound CauseR.good, h.ms.bound MeasR.good⟩

theorem infoCause : (Tryd.prog.info? 76).map (fun i => (i.zero, i.size, i.bytes)) = some (some (.agg #[.string ⟨#[]⟩, .int .i64 0, .int .i64 0, .slice none 0 0]), 4, 56) := by kernel_rfl
theorem OwnL.cap {α : Type} {R : Rd α} {m : Nat} {S : Foot} {w : World} {base : Nat} {e : TypeId} {xs : List α} {A : Option Addr} {n cap : Nat} (h : OwnL R m S w base e (.slice A n cap) xs) : n ≤ cap := by
  obtain ⟨_, cells, ho, _⟩ := h
  rcases ho.2 with ⟨e, _⟩ | ⟨g, cap', cur, e, _, _, hle, _⟩
  · injection e with _ e1 e2; omega
  · injection e with _ e1 e2; omega
theorem causes_own {S : Foot} {W : World} {base : Nat} {e : TypeId} {A : Option Addr} {n cap : Nat} {xs : List Cause} (h : OwnL CauseR 4 S W base e (.slice A n cap) xs) (hn : n ≤ 5) : Causes (fun _ => True) W A n xs :=
  h.slice CauseR.good rfl (by simp only [maxLen]; omega) (fun _ _ => trivial) (fun _ _ _ => trivial)

theorem own_far {α : Type} {R : Rd α} {m : Nat} {S : Foot} {w : World} {base : Nat} {e : TypeId} {v : Value} {xs : List α} (g : R.Good m) (h : OwnL R m S w base e v xs) {b : Nat} (hS : ¬ S b) (hb : b < base) (i : Nat) (u : Value) : OwnL R m S (w.setCell ⟨b, i, none⟩ u) base e v xs :=
  h.keep g (Keeps.setCell _ _ _ (by
    rintro (h1 | h1)
    · exact hS h1
    · have := (OwnL.block h _ h1).1; dsimp only at this; omega))

set_option maxRecDepth 100000 in
set_option maxHeartbeats 4000000 in
theorem only_any {S : Foot} {A B C L : Option Addr} {n ca m cb q cc nl cl : Nat} {c : Claim} {l : List Int} (w : World) (h : ClaimAt (fun _ => True) w A n B m C q c) (hm : m ≤ 5) (hL : Ints S w L nl l) :
    Calls Tryd.prog 44 #[.agg #[.slice A n ca, .slice B m cb, .slice C q cc], .slice L nl cl] w fun e w' => ∃ B' m' cb', e = .returned (.agg #[.slice A n ca, .slice B' m' cb', .slice C q cc]) ∧ m' ≤ cb' ∧ ClaimAt (fun _ => True) w' A n B' m' C q (onlyC c l) ∧ Below w.heap.size w w' := by
  obtain ⟨i0, hi0, hz0, hz1, hz2⟩ := info_parts infoCause
  have Hm := Lib.hid h.cs.len
  have hbn := claim_bnd h
  have hLb := hL.bound IntR.good
  go_enter Tryd.func44, Tryd.ntmps44
  go_wp2
  obtain ⟨wa, hwa⟩ : ∃ wa : World, ((w.alloc (.cells #[.slice A n ca, .slice B m cb, .slice C q cc] 26)).alloc (.cells #[.slice none 0 0, .slice none 0 0, .slice none 0 0] 26)).alloc (.cells #[.slice A n ca, .slice none 0 0, .slice C q cc] 26) = wa := ⟨_, rfl⟩
  have hX : Blk wa w.heap.size 26 #[.slice A n ca, .slice B m cb, .slice C q cc] := by rw [← hwa]; exact ((Blk.new _ _ _ rfl).alloc _).alloc _
  have hR : Blk wa (w.heap.size + 1) 26 #[.slice none 0 0, .slice none 0 0, .slice none 0 0] := by rw [← hwa]; exact (Blk.new _ _ _ (by simp)).alloc _
  have hO : Blk wa (w.heap.size + 1 + 1) 26 #[.slice A n ca, .slice none 0 0, .slice C q cc] := by rw [← hwa]; exact Blk.new _ _ _ (by simp)
  have hBa : Below w.heap.size w wa := by rw [← hwa]; exact bl_alloc (bl_alloc (bl_alloc (Below.refl _ _) _ (Nat.le_refl _)) _ (Nat.le_refl _)) _ (Nat.le_refl _)
  have hsa : wa.heap.size = w.heap.size + 1 + 1 + 1 := by rw [← hwa]; simp
  rw [hwa]
  clear hwa
  have Hsa := Lib.hid hsa
  have hsz : w.heap.size + 3 ≤ wa.heap.size := by omega
  clear hsa
  go_loopw [6] (fun i wr => ∃ (k kk cap : Nat) (Ad : Option Addr) (xs : List Cause), k ≤ m ∧ i = .int .i64 k ∧ kk ≤ k ∧ Hid (xs.length = kk) ∧ OwnL CauseR 4 (fun x => True ∧ x < w.heap.size) wr (w.heap.size + 3) 76 (.slice Ad kk cap) xs ∧
    Blk wr w.heap.size 26 #[.slice A n ca, .slice B m cb, .slice C q cc] ∧ Blk wr (w.heap.size + 1) 26 #[.slice none 0 0, .slice none 0 0, .slice none 0 0] ∧ Blk wr (w.heap.size + 1 + 1) 26 #[.slice A n ca, .slice Ad kk cap, .slice C q cc] ∧
    Below w.heap.size w wr ∧ w.heap.size + 3 ≤ wr.heap.size ∧ Hid (xs = onlyK c.causes l k)) (fun i _ => m - (intOf i).toNat)
  case atStart => exact ⟨0, 0, 0, none, [], Nat.zero_le _, rfl, Nat.le_refl _, rfl, OwnL.nil _ _ _ _ _ _, hX, hR, hO, hBa, hsz, rfl⟩
  case round =>
    obtain ⟨k, kk, cap, Ad, xs, hk, rfl, hkk, Hl, hOw, hX, hR, hO, hB, hsz, Hf⟩ := hrel
    have hx1 : wr.cell? ⟨w.heap.size, 1, none⟩ = some (.slice B m cb) := hX.cell 1
    have hxl := hX.lt
    by_cases hlt : k < m
    · have hki : (k : Int) < m := by omega
      have hcr := hbn.keep (Keeps.below hB)
      obtain ⟨b, off, s, lo, hi, P, np, cp, per, rfl, hb, hc0, hc1, hc2, hc3, hs, hper, Hx⟩ := hcr.cs.get hlt
      have hbb : b < w.heap.size := by
        obtain ⟨b', off', vs, hA', hS', _⟩ := hcr.cs.2.2 k _ Hx.out
        injection hA' with hA'; injection hA' with e1 _; rw [e1]; exact hS'.2
      have hLr := hLb.keep IntR.good (Keeps.below hB)
      have hstep : Hid (onlyK c.causes l (k + 1) = xs ++ if decide ((k : Int) ∈ l) then [⟨s.data.toList, lo, hi, per⟩] else []) := by rw [Hid, onlyK_succ Hx.out, ← Hf.out]
      have hc1' : wr.cell? ⟨w.heap.size + 1 + 1, 1, none⟩ = some (.slice Ad kk cap) := hO.cell 1
      have hol := hO.lt
      cases hd : decide ((k : Int) ∈ l)
      · have Hs2 : Hid (xs = onlyK c.causes l (k + 1)) := Lib.hid (by have := hstep.out; rw [hd] at this; simpa using this.symm)
        have hcall := Lib.hid (fun W (g : Ints (fun k => S k ∧ k < w.heap.size) W L nl l) => has_any (c := cl) (k : Int) W g)
        clear hstep hcr hper hbb hc1'
        go_wp2_with fail
        refine (hcall.out wr hLr).mono ?_
        rintro e w' ⟨rfl, rfl⟩
        rw [hd]
        clear hd hx1 hxl hol hc0 hc1 hc2 hc3 hb
        go_wp2
        go_roundw
        case rel => exact ⟨k + 1, kk, cap, Ad, xs, by omega, by go_num, by omega, Hl, hOw, hX, hR, hO, hB, hsz, Hs2⟩
        case measure => simp [intOf]; omega
      · have Hs2 : Hid (xs ++ [⟨s.data.toList, lo, hi, per⟩] = onlyK c.causes l (k + 1)) := Lib.hid (by have := hstep.out; rw [hd] at this; simpa using this.symm)
        have hcall := Lib.hid (fun W (g : Ints (fun k => S k ∧ k < w.heap.size) W L nl l) => has_any (c := cl) (k : Int) W g)
        have HX := Lib.hid hX
        have HR := Lib.hid hR
        have HO := Lib.hid hO
        have HB := Lib.hid hB
        clear hstep hcr hB hX hR hO
        go_wp2_with fail
        refine (hcall.out wr hLr).mono ?_
        rintro e w' ⟨rfl, rfl⟩
        rw [hd]
        clear hd hcall hLr
        go_wp2
        have hneb : some b ≠ (Value.slice Ad kk cap).ownBlock := hOw.ne (.inl (by omega))
        have hne0 : some w.heap.size ≠ (Value.slice Ad kk cap).ownBlock := hOw.ne (.inl (by omega))
        have hne1 : some (w.heap.size + 1) ≠ (Value.slice Ad kk cap).ownBlock := hOw.ne (.inl (by omega))
        have hne2 : some (w.heap.size + 1 + 1) ≠ (Value.slice Ad kk cap).ownBlock := hOw.ne (.inl (by omega))
        have HOB := Lib.hid (OwnL.block hOw)
        have hA0 : Around CauseR 4 (fun x => True ∧ x < w.heap.size) (w.heap.size + 3) 76 (.slice Ad kk cap) xs wr false wr.drew := ⟨Kept.drew _ _, fun _ => hOw.keep CauseR.good (Keeps.drew _)⟩
        have kk7 : Hid (∀ bb W, Around CauseR 4 (fun x => True ∧ x < w.heap.size) (w.heap.size + 3) 76 (.slice Ad kk cap) xs wr bb W → W.cell? ⟨w.heap.size + 1 + 1, 1, none⟩ = some (.slice Ad kk cap) ∧ W.cell? ⟨w.heap.size, 1, none⟩ = some (.slice (some ⟨b, off, none⟩) m cb) ∧ W.cell? ⟨b, off + k * 4, none⟩ = some (.string s) ∧ W.cell? ⟨b, off + k * 4 + 1, none⟩ = some (.int .i64 lo) ∧ W.cell? ⟨b, off + k * 4 + 2, none⟩ = some (.int .i64 hi) ∧ W.cell? ⟨b, off + k * 4 + 3, none⟩ = some (.slice P np cp)) := fun bb W h =>
          ⟨h.1.cell hc1' (fun e => hne2 e.symm), h.1.cell hx1 (fun e => hne0 e.symm), h.1.cell hc0 (fun e => hneb e.symm), h.1.cell hc1 (fun e => hneb e.symm), h.1.cell hc2 (fun e => hneb e.symm), h.1.cell hc3 (fun e => hneb e.symm)⟩
        have HBW := Lib.hid hb
        have hki0 : (0 : Int) ≤ k := by omega
        clear hc0 hc1 hc2 hc3 hx1 hc1' hOw hb
        refine wp_region_two 8 (fun bb W => Around CauseR 4 (fun x => True ∧ x < w.heap.size) (w.heap.size + 3) 76 (.slice Ad kk cap) xs wr bb W) (fun bb w w' => Kept (fun j => bb = false ∧ (Value.slice Ad kk cap).ownBlock = some j) w w')
          [isV (.pointer (some ⟨w.heap.size + 1 + 1, 1, none⟩)), isV (.slice Ad kk cap), isV (.pointer (some ⟨w.heap.size, 1, none⟩)), isV (.slice (some ⟨b, off, none⟩) m cb), isV (.int .i64 k), isV (.pointer (some ⟨b, off + k * 4, none⟩)), isV (.agg #[.string s, .int .i64 lo, .int .i64 hi, .slice P np cp]), NewEl (Value.slice Ad kk cap).ownBlock 76 (#[.string s, .int .i64 lo, .int .i64 hi, .slice P np cp]), GrownV CauseR 4 (fun x => True ∧ x < w.heap.size) (w.heap.size + 3) 76 (kk + 1) (xs ++ [⟨s.data.toList, lo, hi, per⟩]), isV (.pointer (some ⟨w.heap.size + 1 + 1, 1, none⟩))]
          (by kernel_rfl) (by kernel_rfl) (by kernel_rfl) (by simp) (by simp) (by simp) hA0 ?stab7 ?step7 ?fin7
        case step7 =>
          refine StepsL2.cons ?_ (StepsL2.cons ?_ (StepsL2.cons ?_ (StepsL2.cons ?_ (StepsL2.cons ?_ (StepsL2.cons ?_ (StepsL2.cons ?_ (StepsL2.cons ?_ (StepsL2.cons ?_ (StepsL2.cons ?_ StepsL2.nil)))))))))
          · -- 0 fa
            intro bb vs a W K ha hb hC hD hU hK
            have r5 : a.tmps[5]? = some (.pointer (some ⟨w.heap.size + 1 + 1, 0, none⟩)) := by rw [ha]; kernel_rfl
            clear ha hU hD
            refine ⟨by rfl, ?_⟩
            go_simp
            exact hK _ _ hC (Kept.refl _ _) rfl
          · -- 1 load
            intro bb vs a W K ha hb hC hD hU hK
            have r19 : a.tmps[19]? = some (vs 0) := by rw [ha]; kernel_rfl
            have q0 : vs 0 = .pointer (some ⟨w.heap.size + 1 + 1, 1, none⟩) := hD 0 (by simp [waits, Region.binds])
            rw [q0] at r19
            clear ha hU hD
            refine ⟨by rfl, ?_⟩
            obtain ⟨k0, k1, k2, k3, k4, k5⟩ := kk7.out bb W hC
            go_simp
            exact hK _ _ hC (Kept.refl _ _) rfl
          · -- 2 fa
            intro bb vs a W K ha hb hC hD hU hK
            have r2 : a.tmps[2]? = some (.pointer (some ⟨w.heap.size, 0, none⟩)) := by rw [ha]; kernel_rfl
            clear ha hU hD
            refine ⟨by rfl, ?_⟩
            go_simp
            exact hK _ _ hC (Kept.refl _ _) rfl
          · -- 3 load
            intro bb vs a W K ha hb hC hD hU hK
            have r21 : a.tmps[21]? = some (vs 2) := by rw [ha]; kernel_rfl
            have q2 : vs 2 = .pointer (some ⟨w.heap.size, 1, none⟩) := hD 2 (by simp [waits, Region.binds])
            rw [q2] at r21
            clear ha hU hD
            refine ⟨by rfl, ?_⟩
            obtain ⟨k0, k1, k2, k3, k4, k5⟩ := kk7.out bb W hC
            go_simp
            exact hK _ _ hC (Kept.refl _ _) rfl
          · -- 4 move
            intro bb vs a W K ha hb hC hD hU hK
            have r6 : a.tmps[6]? = some (.int .i64 k) := by rw [ha]; kernel_rfl
            clear ha hU hD
            refine ⟨by rfl, ?_⟩
            go_simp
            exact hK _ _ hC (Kept.refl _ _) rfl
          · -- 5 idx
            intro bb vs a W K ha hb hC hD hU hK
            have r22 : a.tmps[22]? = some (vs 3) := by rw [ha]; kernel_rfl
            have q3 : vs 3 = .slice (some ⟨b, off, none⟩) m cb := hD 3 (by simp [waits, Region.binds])
            rw [q3] at r22
            have r23 : a.tmps[23]? = some (vs 4) := by rw [ha]; kernel_rfl
            have q4 : vs 4 = .int .i64 k := hD 4 (by simp [waits, Region.binds])
            rw [q4] at r23
            clear ha hU hD
            refine ⟨by rfl, ?_⟩
            go_simp
            exact hK _ _ hC (Kept.refl _ _) rfl
          · -- 6 load
            intro bb vs a W K ha hb hC hD hU hK
            have r24 : a.tmps[24]? = some (vs 5) := by rw [ha]; kernel_rfl
            have q5 : vs 5 = .pointer (some ⟨b, off + k * 4, none⟩) := hD 5 (by simp [waits, Region.binds])
            rw [q5] at r24
            clear ha hU hD
            refine ⟨by rfl, ?_⟩
            obtain ⟨k0, k1, k2, k3, k4, k5⟩ := kk7.out bb W hC
            go_simp
            exact hK _ _ hC (Kept.refl _ _) rfl
          · -- 7 buildSlice
            intro bb vs a W K ha hb hC hD hU hK
            have r25 : a.tmps[25]? = some (vs 6) := by rw [ha]; kernel_rfl
            have q6 : vs 6 = .agg #[.string s, .int .i64 lo, .int .i64 hi, .slice P np cp] := hD 6 (by simp [waits, Region.binds])
            rw [q6] at r25
            clear ha hU hD
            refine ⟨by rfl, ?_⟩
            go_simp
            exact hK _ _ (hC.quiet CauseR.good (bl_alloc (Below.refl _ _) _ (Nat.le_refl _))) (Kept.alloc _ _ _) ⟨_, rfl, Blk.new _ _ _ rfl, fun e => by have := (HOB.out _ e).2; have := hC.1.size; omega⟩
          · -- 8 append
            intro bb vs a W K ha hb hC hD hU hK
            have r20 : a.tmps[20]? = some (vs 1) := by rw [ha]; kernel_rfl
            have q1 : vs 1 = .slice Ad kk cap := hD 1 (by simp [waits, Region.binds])
            rw [q1] at r20
            have r26 : a.tmps[26]? = some (vs 7) := by rw [ha]; kernel_rfl
            have q7 : (NewEl (Value.slice Ad kk cap).ownBlock 76 (#[.string s, .int .i64 lo, .int .i64 hi, .slice P np cp])) (vs 7) W := hD 7 (by simp [waits, Region.binds])
            obtain ⟨g7, q7, hg7, _⟩ := q7
            rw [q7] at r26
            clear ha hU hD
            refine ⟨by rfl, ?_⟩
            obtain rfl : bb = false := hb rfl
            have hsW : wr.heap.size ≤ W.heap.size := hC.1.size
            have hBW : Keeps (fun x => True ∧ x < w.heap.size) wr W := hC.1.keeps (fun j hj e => by have := (HOB.out j e).1; omega)
            refine wp_append_el W rfl _ _ _ rfl CauseR.good (w.heap.size + 3) 76 i0 _ 56 Tryd.underlying23 hi0 hz0 hz1 hz2 rfl (by omega) (.slice Ad kk cap) xs ⟨s.data.toList, lo, hi, per⟩ kk Hl.out (by simp [Act.eval, r20]) (hC.2 rfl) g7 1 [.string s, .int .i64 lo, .int .i64 hi, .slice P np cp] (by simp [Act.eval, r26]) ⟨s, P, np, cp, rfl, rfl, hs, hper.keep IntR.good hBW⟩ hg7 (by simp only [maxLen]; omega) (by omega) (by omega) (fun h => by have := h.2; omega) ?_
            intro A2 cap2 w2 hO2 hg2
            exact hK _ _ ⟨hC.1.trans (Kept.grown hg2 (fun _ h => h)), fun h => by cases h⟩ (Kept.grown hg2 (fun _ h => ⟨rfl, h⟩)) ⟨A2, cap2, rfl, hO2⟩
          · -- 9 fa
            intro bb vs a W K ha hb hC hD hU hK
            have r5 : a.tmps[5]? = some (.pointer (some ⟨w.heap.size + 1 + 1, 0, none⟩)) := by rw [ha]; kernel_rfl
            clear ha hU hD
            refine ⟨by rfl, ?_⟩
            go_simp
            exact hK _ _ hC (Kept.refl _ _) rfl
        case stab7 =>
          intro bb i p v w1 w2 hp hi hC hX h
          rcases i with _ | _ | _ | _ | _ | _ | _ | _ | _ | _ | i
          all_goals simp at hp
          all_goals subst hp
          · exact h
          · exact h
          · exact h
          · exact h
          · exact h
          · exact h
          · exact h
          · exact NewEl.keep h hX
          · exact GrownV.keep CauseR.good h (hi rfl) hX
          · exact h
        case fin7 =>
          intro vs W hC hE hU
          have e8 := hE 8 (by simp)
          have e9 := hE 9 (by simp)
          simp only [envOf, List.getD_cons_succ, List.getD_cons_zero, isV] at e8 e9
          have H8 := Lib.hid e8
          clear e8 hE hU
          simp only [fillA, Act.put, List.setIfInBounds_toArray, List.set_cons_zero, List.set_cons_succ, Nat.zero_add, Nat.reduceAdd, e9]
          simp [Region.wanted, yielded]
          obtain ⟨A2, cap2, e8, hO2⟩ := H8.out
          rw [e8] at hO2 ⊢
          clear e8 e9 H8
          have hKW := hC.1
          have hX2 : Blk W w.heap.size 26 #[.slice A n ca, .slice (some ⟨b, off, none⟩) m cb, .slice C q cc] := (hKW.block _ HX.out.lt (fun e => hne0 e.symm)).trans HX.out
          have hR2 : Blk W (w.heap.size + 1) 26 #[.slice none 0 0, .slice none 0 0, .slice none 0 0] := (hKW.block _ HR.out.lt (fun e => hne1 e.symm)).trans HR.out
          have hO3 : Blk W (w.heap.size + 1 + 1) 26 #[.slice A n ca, .slice Ad kk cap, .slice C q cc] := (hKW.block _ HO.out.lt (fun e => hne2 e.symm)).trans HO.out
          have hBW : Below w.heap.size w W := HB.out.trans (hKW.below HB.out.size (fun j hj => by have := (HOB.out j hj).1; omega))
          have hsW : w.heap.size + 3 ≤ W.heap.size := Nat.le_trans hsz hKW.size
          have HX2 := Lib.hid hX2
          have HR2 := Lib.hid hR2
          have HO3 := Lib.hid hO3
          have HBW2 := Lib.hid hBW
          have HO2 := Lib.hid hO2
          have y0 : W.cell? ⟨w.heap.size + 1 + 1, 1, none⟩ = some (.slice Ad kk cap) := hO3.cell 1
          have y1 := hO3.frozen 1
          have y2 := hO3.lt
          clear hX2 hR2 hO3 hBW hO2 hKW hC kk7
          go_simp
          go_wp2
          go_roundw
          case rel => exact ⟨k + 1, kk + 1, cap2, _, _, by omega, by go_num, by omega, by rw [Hid, List.length_append, Hl.out]; rfl, HO2.out.keep CauseR.good (Keeps.setCell _ _ _ (by
              rintro (h | h)
              · exact absurd h.2 (by simp; omega)
              · have := (OwnL.block HO2.out _ h).1; dsimp only at this; omega)), HX2.out.far (by dsimp only; omega) _, HR2.out.far (by dsimp only; omega) _, HO3.out.set_ 1 _, bl_set HBW2.out (by dsimp only; omega) _, by simpa using hsW, Hs2⟩
          case measure => simp [intOf]; omega
    · obtain rfl : m = k := by omega
      have HX := Lib.hid hX
      have HR := Lib.hid hR
      have HO := Lib.hid hO
      have HB := Lib.hid hB
      have hr0 := hR.frozen 0
      have hr1 := hR.frozen 1
      have hr2 := hR.frozen 2
      have hrl := hR.lt
      have hq0 : wr.cell? ⟨w.heap.size + 1, 0, none⟩ = some (.slice none 0 0) := hR.cell 0
      have hq1 : wr.cell? ⟨w.heap.size + 1, 1, none⟩ = some (.slice none 0 0) := hR.cell 1
      have hq2 : wr.cell? ⟨w.heap.size + 1, 2, none⟩ = some (.slice none 0 0) := hR.cell 2
      have hy0 : wr.cell? ⟨w.heap.size + 1 + 1, 0, none⟩ = some (.slice A n ca) := hO.cell 0
      have hy1 : wr.cell? ⟨w.heap.size + 1 + 1, 1, none⟩ = some (.slice Ad kk cap) := hO.cell 1
      have hy2 : wr.cell? ⟨w.heap.size + 1 + 1, 2, none⟩ = some (.slice C q cc) := hO.cell 2
      have hol := hO.lt
      have hcr := Lib.hid (hbn.keep (Keeps.below hB))
      have HOW := Lib.hid hOw
      have Hcap := hOw.cap
      have Hf2 : Hid (xs = onlyK c.causes l c.causes.length) := by rw [Hid, Hf.out, Hm.out]
      clear hX hR hO hB hOw
      go_wp2
      obtain ⟨WE, hWE⟩ : ∃ WE, (((wr.setCell ⟨w.heap.size + 1, 0, none⟩ (.slice A n ca)).setCell ⟨w.heap.size + 1, 1, none⟩ (.slice Ad kk cap)).setCell ⟨w.heap.size + 1, 2, none⟩ (.slice C q cc)) = WE := ⟨_, rfl⟩
      have hE : Blk WE (w.heap.size + 1) 26 #[.slice A n ca, .slice Ad kk cap, .slice C q cc] := by rw [← hWE]; exact ((HR.out.set_ 0 _).set_ 1 _).set_ 2 _
      have hBE : Below w.heap.size w WE := by rw [← hWE]; exact bl_set (bl_set (bl_set HB.out (by dsimp only; omega) _) (by dsimp only; omega) _) (by dsimp only; omega) _
      have hOE : OwnL CauseR 4 (fun x => True ∧ x < w.heap.size) WE (w.heap.size + 3) 76 (.slice Ad kk cap) xs := by
        rw [← hWE]
        exact own_far CauseR.good (own_far CauseR.good (own_far CauseR.good HOW.out (by simp) (by omega) _ _) (by simp) (by omega) _ _) (by simp) (by omega) _ _
      rw [hWE]
      have hcE := hbn.keep (Keeps.below hBE)
      have hCC := causes_own hOE (by omega)
      rw [Hf2.out] at hCC
      exact bodyPost_ret (ret_claim1 rfl rfl (hE.cell 0) (hE.cell 1) (hE.cell 2)) rfl ⟨_, _, _, rfl, Hcap, ⟨hcE.fs.mono FeatR.good (fun _ _ => trivial), hCC, hcE.ms.mono MeasR.good (fun _ _ => trivial)⟩, hBE⟩
end Go.Proofs.YtkbpmcpmcmnfgaaDoor
