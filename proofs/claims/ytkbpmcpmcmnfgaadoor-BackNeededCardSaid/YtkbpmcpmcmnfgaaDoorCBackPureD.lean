/- Layer 12, plain: what must be, what may be, each amount; the least sets. -/
import Derived.Test.YtkbpmcpmcmnfgaaDoorCBackPureC
import Derived.Test.YtkbpmcpmcmnfgaaDoorCLaws
set_option linter.unusedVariables false
set_option linter.unusedSimpArgs false
set_option linter.all false
namespace Go.Proofs.YtkbpmcpmcmnfgaaDoor

theorem asc_of {xs : List Int} {m : Int} (hp : xs.Pairwise (· < ·)) (hb : ∀ x ∈ xs, 0 ≤ x ∧ x < m) : ascL xs m = true := by
  unfold ascL
  rw [List.all_eq_true]
  intro k hk
  have hk := List.mem_range.1 hk
  have hx := List.getElem?_eq_getElem hk
  have h1 := hb _ (List.getElem_mem hk)
  unfold ascAt
  rw [getD_of hx, decide_eq_true h1.1, decide_eq_true h1.2]
  cases k with
  | zero => rfl
  | succ j =>
    have hy := List.getElem?_eq_getElem (show j < xs.length by omega)
    rw [Nat.add_sub_cancel, getD_of hy, decide_eq_true ((List.pairwise_iff_getElem.1 hp) j (j + 1) (by omega) hk (by omega))]
    simp
theorem asc_filter (p : Nat → Bool) (n : Nat) : ascL (((List.range n).filter p).map fun i : Nat => (i : Int)) n = true := by
  refine asc_of ?_ ?_
  · rw [List.pairwise_map]
    exact (List.pairwise_lt_range.filter p).imp (fun h => by omega)
  · intro x hx
    obtain ⟨i, hi, rfl⟩ := List.mem_map.1 hx
    have := List.mem_range.1 (List.mem_filter.1 hi).1
    omega
theorem asc_must (c : Claim) : ascL (mustL c) c.causes.length = true := asc_filter _ _
theorem asc_may (c : Claim) : ascL (mayL c) c.causes.length = true := asc_filter _ _
theorem asc_sets {c : Claim} (h : OkC c) {s : List Int} (hs : s ∈ setsL c) : ascL s c.causes.length = true := by
  obtain ⟨⟨t, ht, rfl⟩, _⟩ := (sets_mem h).1 hs
  have := (agree_ok h ht).1
  rw [← this]
  exact asc_filter _ _

theorem mem_must {c : Claim} {i : Nat} : (i : Int) ∈ mustL c ↔ i < c.causes.length ∧ ∀ t ∈ agreeL c, 0 < t.getD i 0 := by
  unfold mustL isMust
  rw [List.mem_map]
  constructor
  · rintro ⟨k, hk, he⟩
    obtain rfl : k = i := by omega
    obtain ⟨h1, h2⟩ := List.mem_filter.1 hk
    exact ⟨List.mem_range.1 h1, fun t ht => of_decide_eq_true ((List.all_eq_true.1 h2) t ht)⟩
  · rintro ⟨h1, h2⟩
    exact ⟨i, List.mem_filter.2 ⟨List.mem_range.2 h1, List.all_eq_true.2 fun t ht => decide_eq_true (h2 t ht)⟩, rfl⟩
theorem mem_may {c : Claim} {i : Nat} : (i : Int) ∈ mayL c ↔ i < c.causes.length ∧ ∃ t ∈ agreeL c, 0 < t.getD i 0 := by
  unfold mayL isMay
  rw [List.mem_map]
  constructor
  · rintro ⟨k, hk, he⟩
    obtain rfl : k = i := by omega
    obtain ⟨h1, h2⟩ := List.mem_filter.1 hk
    obtain ⟨t, ht, hp⟩ := List.any_eq_true.1 h2
    exact ⟨List.mem_range.1 h1, t, ht, of_decide_eq_true hp⟩
  · rintro ⟨h1, t, ht, h2⟩
    exact ⟨i, List.mem_filter.2 ⟨List.mem_range.2 h1, List.any_eq_true.2 ⟨t, ht, decide_eq_true h2⟩⟩, rfl⟩
theorem must_nat {c : Claim} {x : Int} (h : x ∈ mustL c) : ∃ i : Nat, x = i := by
  obtain ⟨k, _, rfl⟩ := List.mem_map.1 h
  exact ⟨k, rfl⟩
theorem partL_iff {a b : List Int} : partL a b = true ↔ ∀ x ∈ a, x ∈ b := by
  unfold partL
  rw [List.all_eq_true]
  exact ⟨fun h x hx => of_decide_eq_true (h x hx), fun h x hx => decide_eq_true (h x hx)⟩
theorem must_part {c : Claim} (h : OkC c) {t : List Int} (ht : t ∈ agreeL c) : partL (mustL c) (setL t) = true := by
  rw [partL_iff]
  intro x hx
  obtain ⟨i, rfl⟩ := must_nat hx
  obtain ⟨h1, h2⟩ := mem_must.1 hx
  exact set_mem.2 ⟨by rw [(agree_ok h ht).1]; exact h1, h2 t ht⟩
theorem part_may {c : Claim} (h : OkC c) {t : List Int} (ht : t ∈ agreeL c) : partL (setL t) (mayL c) = true := by
  rw [partL_iff]
  intro x hx
  obtain ⟨i, rfl⟩ := set_nat hx
  obtain ⟨h1, h2⟩ := set_mem.1 hx
  exact mem_may.2 ⟨by rw [(agree_ok h ht).1] at h1; exact h1, t, ht, h2⟩
theorem need_sets {c : Claim} (h : OkC c) {s : List Int} (hs : s ∈ setsL c) : partL (mustL c) s = true ∧ partL s (mayL c) = true := by
  obtain ⟨⟨t, ht, rfl⟩, _⟩ := (sets_mem h).1 hs
  exact ⟨must_part h ht, part_may h ht⟩

/-- all numbers below n but one -/
def restL (i n : Nat) : List Int := ((List.range n).filter fun k => decide (k ≠ i)).map fun k : Nat => (k : Int)
theorem mem_rest {i n k : Nat} : (k : Int) ∈ restL i n ↔ k < n ∧ k ≠ i := by
  unfold restL
  rw [List.mem_map]
  constructor
  · rintro ⟨j, hj, he⟩
    obtain rfl : j = k := by omega
    obtain ⟨h1, h2⟩ := List.mem_filter.1 hj
    exact ⟨List.mem_range.1 h1, of_decide_eq_true h2⟩
  · rintro ⟨h1, h2⟩
    exact ⟨k, List.mem_filter.2 ⟨List.mem_range.2 h1, decide_eq_true h2⟩, rfl⟩
theorem need_rest {c : Claim} (h : OkC c) {i : Nat} (hi : i < c.causes.length) : agreeL (onlyC c (restL i c.causes.length)) = [] ↔ (i : Int) ∈ mustL c := by
  rw [only_none h, mem_must]
  constructor
  · intro ha
    refine ⟨hi, fun t ht => Classical.byContradiction fun hn => ?_⟩
    have := ha t ht
    rw [partL_iff.2] at this
    · cases this
    · intro x hx
      obtain ⟨k, rfl⟩ := set_nat hx
      obtain ⟨h1, h2⟩ := set_mem.1 hx
      refine mem_rest.2 ⟨by rw [(agree_ok h ht).1] at h1; exact h1, fun e => hn (by rw [← e]; exact h2)⟩
  · rintro ⟨_, ha⟩ t ht
    cases hp : partL (setL t) (restL i c.causes.length)
    · rfl
    · have := partL_iff.1 hp i (set_mem.2 ⟨by rw [(agree_ok h ht).1]; exact hi, ha t ht⟩)
      exact absurd rfl (mem_rest.1 this).2

theorem ends_at (L : List Int) : ∀ lo hi : Int, ((ends lo hi L).1 = lo ∨ (ends lo hi L).1 ∈ L) ∧ ((ends lo hi L).2 = hi ∨ (ends lo hi L).2 ∈ L) ∧ (ends lo hi L).1 ≤ lo ∧ hi ≤ (ends lo hi L).2 ∧ ∀ x ∈ L, (ends lo hi L).1 ≤ x ∧ x ≤ (ends lo hi L).2 := by
  induction L with
  | nil => intro lo hi; exact ⟨.inl rfl, .inl rfl, Int.le_refl _, Int.le_refl _, fun x h => by cases h⟩
  | cons y L ih =>
    intro lo hi
    obtain ⟨h1, h2, h3, h4, h5⟩ := ih (min lo y) (max hi y)
    simp only [ends]
    refine ⟨?_, ?_, by omega, by omega, fun x hx => ?_⟩
    · rcases h1 with h1 | h1
      · rw [h1]
        by_cases hm : lo ≤ y
        · left; omega
        · right; rw [show min lo y = y by omega]; exact List.mem_cons_self
      · exact .inr (List.mem_cons_of_mem _ h1)
    · rcases h2 with h2 | h2
      · rw [h2]
        by_cases hm : y ≤ hi
        · left; omega
        · right; rw [show max hi y = y by omega]; exact List.mem_cons_self
      · exact .inr (List.mem_cons_of_mem _ h2)
    · rcases List.mem_cons.1 hx with rfl | hx
      · omega
      · exact h5 x hx
theorem endsOf_at {L : List Int} (h : L ≠ []) : (endsOf L).1 ∈ L ∧ (endsOf L).2 ∈ L ∧ ∀ x ∈ L, (endsOf L).1 ≤ x ∧ x ≤ (endsOf L).2 := by
  cases L with
  | nil => exact absurd rfl h
  | cons y L =>
    obtain ⟨h1, h2, h3, h4, h5⟩ := ends_at L y y
    simp only [endsOf]
    refine ⟨?_, ?_, fun x hx => ?_⟩
    · rcases h1 with h1 | h1
      · rw [h1]; exact List.mem_cons_self
      · exact List.mem_cons_of_mem _ h1
    · rcases h2 with h2 | h2
      · rw [h2]; exact List.mem_cons_self
      · exact List.mem_cons_of_mem _ h2
    · rcases List.mem_cons.1 hx with rfl | hx
      · exact ⟨h3, h4⟩
      · exact h5 x hx
theorem errAt_in {c : Claim} (he : err c = 0) (hne : agreeL c ≠ []) {i n : Nat} (hi : i < n) : errAt c i n = 0 := by
  unfold errAt
  rw [if_neg (by simp [he]), if_pos (inB_iff.2 (by omega)), if_neg hne]
theorem amount_ok {c : Claim} (he : err c = 0) (hne : agreeL c ≠ []) {i : Nat} (hi : i < c.causes.length) : amountR c i = (endsOf ((agreeL c).map fun t => t.getD i 0), 0) := by
  unfold amountR
  rw [if_neg (by rw [errAt_in he hne hi]; simp)]
  rfl
theorem value_ok {c : Claim} (he : err c = 0) (hne : agreeL c ≠ []) {f : Nat} (hf : f < c.feats.length) : valueR c f = (endsOf ((agreeL c).map fun t => len c t f), 0) := by
  unfold valueR
  rw [if_neg (by rw [errAt_in he hne hf]; simp)]
  rfl
theorem need_amount {c : Claim} (he : err c = 0) (hne : agreeL c ≠ []) {i : Nat} (hi : i < c.causes.length) : ∃ lo hi, amountR c i = ((lo, hi), 0) ∧ (0 < lo ↔ (i : Int) ∈ mustL c) ∧ (0 < hi ↔ (i : Int) ∈ mayL c) := by
  obtain ⟨h1, h2, h3⟩ := endsOf_at (L := (agreeL c).map fun t => t.getD i 0) (by simpa using hne)
  rw [amount_ok he hne hi]
  obtain ⟨a, b, hab⟩ : ∃ a b, endsOf ((agreeL c).map fun t => t.getD i 0) = (a, b) := ⟨_, _, rfl⟩
  rw [hab] at h1 h2 h3 ⊢
  dsimp only at h1 h2 h3
  refine ⟨a, b, rfl, ?_, ?_⟩
  · rw [mem_must]
    constructor
    · intro h
      refine ⟨hi, fun t ht => ?_⟩
      have := h3 _ (List.mem_map.2 ⟨t, ht, rfl⟩)
      omega
    · rintro ⟨_, h⟩
      obtain ⟨t, ht, e⟩ := List.mem_map.1 h1
      rw [← e]; exact h t ht
  · rw [mem_may]
    constructor
    · intro h
      obtain ⟨t, ht, e⟩ := List.mem_map.1 h2
      exact ⟨hi, t, ht, by rw [e]; exact h⟩
    · rintro ⟨_, t, ht, h⟩
      have := h3 _ (List.mem_map.2 ⟨t, ht, rfl⟩)
      omega
theorem must_only {c : Claim} (he : err c = 0) (l : List Int) : (mustR (onlyC c l)).2.2 = if agreeL (onlyC c l) = [] then 8 else 0 := by
  have h1 := only_err he l
  unfold mustR
  by_cases h : agreeL (onlyC c l) = []
  · rw [if_pos h, err8_none h1 h, if_pos (by decide)]
  · rw [if_neg h, err8_ok h1 h, if_neg (by decide)]
theorem must_bad {c : Claim} (h : err c ≠ 0) : mustR c = ([], [], err c) := by unfold mustR; rw [err8_bad h, if_pos h]
theorem must_none {c : Claim} (h : err c = 0) (ha : agreeL c = []) : mustR c = ([], [], 8) := by unfold mustR; rw [err8_none h ha, if_pos (by decide)]
theorem must_ok {c : Claim} (h : err c = 0) (ha : agreeL c ≠ []) : mustR c = (mustL c, mayL c, 0) := by unfold mustR; rw [err8_ok h ha, if_neg (by decide)]
theorem sets_bad {c : Claim} (h : err c ≠ 0) : setsR c = ([], err c) := by unfold setsR; rw [if_pos h]
theorem sets_ok {c : Claim} (h : err c = 0) : setsR c = (setsL c, 0) := by unfold setsR; rw [if_neg (by simp [h])]
theorem plain_bad {c : Claim} (h : err c ≠ 0) : plainR c = ([], err c) := by unfold plainR; rw [err8_bad h, if_pos h]
theorem plain_none {c : Claim} (h : err c = 0) (ha : agreeL c = []) : plainR c = ([], 8) := by unfold plainR; rw [err8_none h ha, if_pos (by decide)]
theorem plain_ok {c : Claim} (h : err c = 0) (ha : agreeL c ≠ []) : plainR c = (plainOf (agreeL c), 0) := by unfold plainR; rw [err8_ok h ha, if_neg (by decide)]

end Go.Proofs.YtkbpmcpmcmnfgaaDoor
