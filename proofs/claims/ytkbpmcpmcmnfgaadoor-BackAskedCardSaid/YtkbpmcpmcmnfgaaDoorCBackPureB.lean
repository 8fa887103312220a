/- Layer 12, plain: the sets that are left, as the reference counts them. Nothing of a program stands here. -/
import Derived.Test.YtkbpmcpmcmnfgaaDoorCCount
import Derived.Test.YtkbpmcpmcmnfgaaDoorCPlain
set_option linter.unusedVariables false
set_option linter.unusedSimpArgs false
set_option linter.all false
namespace Go.Proofs.YtkbpmcpmcmnfgaaDoor

theorem pop_count : ∀ (k m : Nat), pop k m = (List.range k).countP fun v => m.testBit v := by
  intro k
  induction k with
  | zero => intro m; rfl
  | succ k ih =>
    intro m
    rw [pop, ih, List.range_succ_eq_map, List.countP_cons, List.countP_map]
    have h : ((fun v => m.testBit v) ∘ Nat.succ) = fun v => (m / 2).testBit v := by funext v; simp [Nat.testBit_succ]
    rw [h, Nat.testBit_zero]
    have : (if (decide (m % 2 = 1)) = true then 1 else 0) = m % 2 := by split <;> rename_i h <;> simp at h <;> omega
    rw [this]; omega
theorem ord_perm : ord5.Perm (List.range 32) := List.isPerm_iff.1 (by decide +kernel)
theorem ord_pop (m : Nat) : ord5.countP (fun v => m.testBit v) = pop 32 m := by rw [pop_count]; exact ord_perm.countP_eq _

/-- what can be shown, from low less Err on, if the truth has a set -/
def shownB (c : Claim) (f : Nat) (low : Int) (s : List Int) (L : List (List Int)) (p : Nat) : Bool := L.any fun t => decide (setL t = s) && hitB c f (low - offOf c f + p) t
def manyC (c : Claim) (f : Nat) (low : Int) (L ss : List (List Int)) (p : Nat) : Nat := ss.countP fun s => shownB c f low s L p
theorem shownB_snoc (c : Claim) (f : Nat) (low : Int) (s : List Int) (L : List (List Int)) (t : List Int) (p : Nat) : shownB c f low s (L ++ [t]) p = (shownB c f low s L p || (decide (setL t = s) && hitB c f (low - offOf c f + p) t)) := by simp [shownB]
theorem manyC_snoc (c : Claim) (f : Nat) (low : Int) (L ss : List (List Int)) (s : List Int) (p : Nat) : manyC c f low L (ss ++ [s]) p = manyC c f low L ss p + if shownB c f low s L p then 1 else 0 := by simp [manyC]
theorem many_pop {c : Claim} (h : OkC c) (f : Nat) (low : Int) (p : Nat) : manyC c f low (agreeL c) (explainsL c) p = pop 32 (maskN c f (agreeL c) (low - offOf c f + p)) := by
  unfold manyC
  rw [explains_ord h, List.countP_map, List.countP_filter, ← ord_pop]
  refine List.countP_congr fun v hv => ?_
  have hv32 := ord_lt v hv
  have hs : ∀ t ∈ agreeL c, (setL t = listN v ↔ setN t = v) := fun t ht => by
    have hl := (allT_ok h (List.mem_filter.1 ht).1).1
    rw [← listN_set (by rw [hl]; exact h.nc)]
    exact ⟨fun e => listN_inj _ (setN_lt t) _ hv32 e, fun e => by rw [e]⟩
  rw [maskN_bit]
  simp only [Function.comp_apply, shownB, Bool.and_eq_true, List.any_eq_true, decide_eq_true_eq]
  constructor
  · rintro ⟨⟨t, ht, he, hb⟩, _⟩
    exact ⟨t, ht, hb, (hs t ht).1 he⟩
  · rintro ⟨t, ht, hb, he⟩
    exact ⟨⟨t, ht, (hs t ht).2 he, hb⟩, t, ht, he⟩

theorem ends_in (L : List Int) : ∀ lo hi : Int, (ends lo hi L).1 ≤ lo ∧ hi ≤ (ends lo hi L).2 ∧ ∀ x ∈ L, (ends lo hi L).1 ≤ x ∧ x ≤ (ends lo hi L).2 := by
  induction L with
  | nil => intro lo hi; exact ⟨Int.le_refl _, Int.le_refl _, fun x h => by cases h⟩
  | cons y L ih =>
    intro lo hi
    obtain ⟨h1, h2, h3⟩ := ih (min lo y) (max hi y)
    simp only [ends]
    refine ⟨by omega, by omega, fun x hx => ?_⟩
    rcases List.mem_cons.1 hx with rfl | hx
    · omega
    · exact h3 x hx
theorem endsOf_in {L : List Int} {x : Int} (hx : x ∈ L) : (endsOf L).1 ≤ x ∧ x ≤ (endsOf L).2 := by
  cases L with
  | nil => cases hx
  | cons y L =>
    obtain ⟨h1, h2, h3⟩ := ends_in L y y
    rcases List.mem_cons.1 hx with rfl | hx
    · exact ⟨h1, h2⟩
    · exact h3 x hx

/-- the greatest of the first ones -/
def maxTo (F : Nat → Nat) : Nat → Nat
  | 0 => 0
  | k + 1 => max (maxTo F k) (F k)
theorem maxTo_ge (F : Nat → Nat) : ∀ k p, p < k → F p ≤ maxTo F k := by
  intro k
  induction k with
  | zero => intro p h; omega
  | succ k ih =>
    intro p hp
    simp only [maxTo]
    by_cases hk : p = k
    · subst hk; omega
    · have := ih p (by omega); omega
theorem maxTo_some (F : Nat → Nat) : ∀ k, maxTo F k = 0 ∨ ∃ p, p < k ∧ maxTo F k = F p := by
  intro k
  induction k with
  | zero => exact .inl rfl
  | succ k ih =>
    simp only [maxTo]
    rcases Nat.le_total (maxTo F k) (F k) with h | h
    · exact .inr ⟨k, by omega, by omega⟩
    · rcases ih with ih | ⟨p, hp, ih⟩
      · exact .inl (by omega)
      · exact .inr ⟨p, by omega, by omega⟩
/-- the reference's number is the program's -/
theorem left_ref {c : Claim} (h : OkC c) {f : Nat} (hf : f < c.feats.length) {low high : Int} (he : (low, high) = endsOf ((agreeL c).map fun t => len c t f)) {N : Nat} (hN : (N : Int) = high - low + 2 * offOf c f + 1) :
    ((maxTo (manyC c f low (agreeL c) (explainsL c)) N : Nat) : Int) = leftR c (agreeL c) f := by
  have hoff : 0 ≤ offOf c f := by
    have := h.feat (List.getElem?_eq_getElem hf)
    unfold offOf; rw [getD_of (List.getElem?_eq_getElem hf)]; omega
  refine left_of hoff (by omega) (fun n hn => ?_) ?_
  · have hit : ∃ t ∈ agreeL c, hitB c f n t = true := Classical.byContradiction fun hc => hn (maskN_zero.2 fun t ht => by
      cases hb : hitB c f n t
      · rfl
      · exact absurd ⟨t, ht, hb⟩ hc)
    obtain ⟨t, ht, hb⟩ := hit
    have hl : low ≤ len c t f ∧ len c t f ≤ high := by
      have := endsOf_in (L := (agreeL c).map fun t => len c t f) (List.mem_map.2 ⟨t, ht, rfl⟩)
      rw [← he] at this; exact this
    simp only [hitB, Bool.and_eq_true, decide_eq_true_eq] at hb
    have hp := maxTo_ge (manyC c f low (agreeL c) (explainsL c)) N (n - (low - offOf c f)).toNat (by omega)
    rw [many_pop h, show low - offOf c f + ((n - (low - offOf c f)).toNat : Nat) = n by omega] at hp
    omega
  · rcases maxTo_some (manyC c f low (agreeL c) (explainsL c)) N with h0 | ⟨p, hp, h0⟩
    · exact .inl (by rw [h0]; rfl)
    · by_cases hm : maskN c f (agreeL c) (low - offOf c f + p) = 0
      · left; rw [h0, many_pop h, hm, pop_count]; simp
      · exact .inr ⟨_, hm, by rw [h0, many_pop h]⟩

end Go.Proofs.YtkbpmcpmcmnfgaaDoor
