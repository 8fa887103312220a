/- Layer 7, plain: which sizes and wears agree, which numbers of Shrink, which sizes of a cast there are. Nothing of a program stands here. -/
import Derived.Test.YtpdldmichpmgmaaGreatCCastOk
set_option linter.unusedVariables false
set_option linter.unusedSimpArgs false
set_option linter.all false
namespace Go.Proofs.YtpdldmichpmgmaaGreat

theorem ends_at7 (L : List Int) : ∀ lo hi : Int, ((ends lo hi L).1 = lo ∨ (ends lo hi L).1 ∈ L) ∧ ((ends lo hi L).2 = hi ∨ (ends lo hi L).2 ∈ L) ∧ (ends lo hi L).1 ≤ lo ∧ hi ≤ (ends lo hi L).2 ∧ ∀ x ∈ L, (ends lo hi L).1 ≤ x ∧ x ≤ (ends lo hi L).2 := by
  induction L with
  | nil => intro lo hi; exact ⟨.inl rfl, .inl rfl, Int.le_refl _, Int.le_refl _, fun x h => by cases h⟩
  | cons y L ih =>
    intro lo hi
    obtain ⟨h1, h2, h3, h4, h5⟩ := ih (min lo y) (max hi y)
    simp only [ends]
    refine ⟨?_, ?_, by omega, by omega, fun x hx => ?_⟩
    · rcases h1 with h1 | h1
      · rw [h1]
        by_cases hm : lo ≤ y
        · left; omega
        · right; rw [show min lo y = y by omega]; exact List.mem_cons_self
      · exact .inr (List.mem_cons_of_mem _ h1)
    · rcases h2 with h2 | h2
      · rw [h2]
        by_cases hm : y ≤ hi
        · left; omega
        · right; rw [show max hi y = y by omega]; exact List.mem_cons_self
      · exact .inr (List.mem_cons_of_mem _ h2)
    · rcases List.mem_cons.1 hx with rfl | hx
      · omega
      · exact h5 x hx
theorem endsOf_at7 {L : List Int} (h : L ≠ []) : (endsOf L).1 ∈ L ∧ (endsOf L).2 ∈ L ∧ ∀ x ∈ L, (endsOf L).1 ≤ x ∧ x ≤ (endsOf L).2 := by
  cases L with
  | nil => exact absurd rfl h
  | cons y L =>
    obtain ⟨h1, h2, h3, h4, h5⟩ := ends_at7 L y y
    simp only [endsOf]
    refine ⟨?_, ?_, fun x hx => ?_⟩
    · rcases h1 with h1 | h1
      · rw [h1]; exact List.mem_cons_self
      · exact List.mem_cons_of_mem _ h1
    · rcases h2 with h2 | h2
      · rw [h2]; exact List.mem_cons_self
      · exact List.mem_cons_of_mem _ h2
    · rcases List.mem_cons.1 hx with rfl | hx
      · exact ⟨h3, h4⟩
      · exact h5 x hx
theorem ends_sub7 {L M : List Int} (hL : L ≠ []) (h : ∀ x ∈ L, x ∈ M) : (endsOf M).1 ≤ (endsOf L).1 ∧ (endsOf L).2 ≤ (endsOf M).2 := by
  obtain ⟨h1, h2, _⟩ := endsOf_at7 hL
  have hM : M ≠ [] := List.ne_nil_of_mem (h _ h1)
  obtain ⟨_, _, h3⟩ := endsOf_at7 hM
  exact ⟨(h3 _ (h _ h1)).1, (h3 _ (h _ h2)).2⟩

/-- a size and a wear lie in the ranges of a mould -/
def InM (x : Mould) (p : Int × Int) : Prop := x.slo ≤ p.1 ∧ p.1 ≤ x.shi ∧ x.wlo ≤ p.2 ∧ p.2 ≤ x.whi
theorem twoOk_iff {l : List SeenC} {m : Nat} {k a w : Int} : twoOk7 l m k a w = true ↔ ∀ y ∈ l, y.mould = (m : Int) → y.lo ≤ made7 a w y.cast k ∧ made7 a w y.cast k ≤ y.hi := by
  unfold twoOk7
  rw [List.all_eq_true]
  constructor
  · intro h y hy e
    have := h y hy
    simpa [e, inB] using this
  · intro h y hy
    by_cases e : y.mould = (m : Int)
    · have := h y hy e
      simp [e, inB, this]
    · simp [e]
theorem twos_mem {s : Shop} {l : List SeenC} {m : Nat} {k : Int} {p : Int × Int} (hk : OkS s) (hm : m < s.moulds.length) : p ∈ twosC s l m k ↔ InM (s.moulds.getD m dMould) p ∧ twoOk7 l m k p.1 p.2 = true := by
  have hx : s.moulds[m]? = some s.moulds[m] := List.getElem?_eq_getElem hm
  have hz := mouldE_zero hx (hk.mould hm)
  unfold twosC
  rw [getD_of hx]
  generalize s.moulds[m] = x at *
  have hs : 0 < wearN x := by unfold wearN; omega
  rw [List.mem_filter]
  refine and_congr_left fun _ => ?_
  constructor
  · intro hm1
    obtain ⟨j, hk2, rfl⟩ := List.mem_map.1 hm1
    have hk3 := List.mem_range.1 hk2
    have hd : j / wearN x < sizeN x := by rw [Nat.mul_comm] at hk3; exact Nat.div_lt_of_lt_mul hk3
    have hm2 : j % wearN x < wearN x := Nat.mod_lt _ hs
    unfold pairC InM
    dsimp only
    generalize j / wearN x = d at *
    generalize j % wearN x = e at *
    unfold sizeN at hd
    unfold wearN at hm2
    omega
  · rintro ⟨h1, h2, h3, h4⟩
    have hd : (p.1 - x.slo).toNat < sizeN x := by unfold sizeN; omega
    have hw : (p.2 - x.wlo).toNat < wearN x := by unfold wearN; omega
    refine List.mem_map.2 ⟨(p.1 - x.slo).toNat * wearN x + (p.2 - x.wlo).toNat, List.mem_range.2 ?_, ?_⟩
    · have : ((p.1 - x.slo).toNat + 1) * wearN x ≤ sizeN x * wearN x := Nat.mul_le_mul_right _ (by omega)
      rw [Nat.succ_mul] at this
      omega
    · unfold pairC
      rw [Nat.add_comm, Nat.add_mul_div_right _ _ hs, Nat.div_eq_of_lt hw, Nat.add_mul_mod_self_right, Nat.mod_eq_of_lt hw, Nat.zero_add]
      exact Prod.ext (by dsimp only; omega) (by dsimp only; omega)
theorem shrink_mem {s : Shop} {k : Int} : k ∈ shrinkL s ↔ s.klo ≤ k ∧ k ≤ s.khi := by
  unfold shrinkL
  rw [List.mem_map]
  constructor
  · rintro ⟨i, hi, rfl⟩
    have := List.mem_range.1 hi
    omega
  · rintro ⟨h1, h2⟩
    exact ⟨(k - s.klo).toNat, List.mem_range.2 (by omega), by omega⟩
theorem knownB_iff {s : Shop} {l : List SeenC} {k : Int} : knownB s l k = true ↔ ∀ m, m < s.moulds.length → ∃ p, p ∈ twosC s l m k := by
  unfold knownB
  rw [List.all_eq_true]
  constructor
  · intro h m hm
    have := h m (List.mem_range.2 hm)
    exact List.exists_mem_of_ne_nil _ (by simpa using this)
  · intro h m hm
    obtain ⟨p, hp⟩ := h m (List.mem_range.1 hm)
    have := List.ne_nil_of_mem hp
    simpa using this
theorem known_iff {s : Shop} {l : List SeenC} {k : Int} : k ∈ known7 s l ↔ (s.klo ≤ k ∧ k ≤ s.khi) ∧ ∀ m, m < s.moulds.length → ∃ p, p ∈ twosC s l m k := by
  unfold known7
  rw [List.mem_filter, shrink_mem, knownB_iff]
theorem made_mem {s : Shop} {l : List SeenC} {m : Nat} {c n : Int} : n ∈ madeL s l m c ↔ ∃ k ∈ known7 s l, ∃ p ∈ twosC s l m k, made7 p.1 p.2 c k = n := by
  unfold madeL
  simp only [List.mem_flatMap, List.mem_map]
theorem made_ne {s : Shop} {l : List SeenC} {m : Nat} {c : Int} (hm : m < s.moulds.length) (h : known7 s l ≠ []) : madeL s l m c ≠ [] := by
  obtain ⟨k, hk⟩ := List.exists_mem_of_ne_nil _ h
  obtain ⟨p, hp⟩ := (known_iff.1 hk).2 m hm
  exact List.ne_nil_of_mem (made_mem.2 ⟨k, hk, p, hp, rfl⟩)
theorem size_at {s : Shop} {l : List SeenC} {m : Nat} {c : Int} (hm : m < s.moulds.length) (h : known7 s l ≠ []) : (size7 s l m c).1 ∈ madeL s l m c ∧ (size7 s l m c).2 ∈ madeL s l m c ∧ ∀ x ∈ madeL s l m c, (size7 s l m c).1 ≤ x ∧ x ≤ (size7 s l m c).2 :=
  endsOf_at7 (made_ne hm h)
theorem known_asc (s : Shop) (l : List SeenC) : (known7 s l).Pairwise (· < ·) := by
  unfold known7
  refine List.Pairwise.filter _ ?_
  unfold shrinkL
  rw [List.pairwise_map]
  exact List.pairwise_lt_range.imp fun h => by omega
/-- what is seen, is right -/
theorem seen7_ok {s : Shop} {l : List SeenC} (h1 : (check7 s).2.2 = 0) (h2 : l.length ≤ 6) (h3 : ∀ k, k < l.length → seenE7 s l k = 0) : seen7 s l = (0, 0) := by
  rw [seen7_n h1 (by omega)]
  rw [firstErr_none h3]
theorem seenE_of {s : Shop} {l : List SeenC} {k : Nat} {y : SeenC} (h : l[k]? = some y) (h1 : 0 ≤ y.mould ∧ y.mould < s.moulds.length) (h2 : 0 ≤ y.cast ∧ y.cast < (s.moulds.getD y.mould.toNat dMould).casts) (h3 : 0 ≤ y.lo ∧ y.lo ≤ y.hi ∧ y.hi ≤ 20000) : seenE7 s l k = 0 := by
  unfold seenE7
  rw [getD_of h]
  dsimp only
  have ht : there7 s y.mould y.cast = true := by
    unfold there7
    simp only [inB, Bool.and_eq_true, decide_eq_true_eq]
    omega
  rw [ht]
  unfold rangeE
  simp [inB]
  omega
end Go.Proofs.YtpdldmichpmgmaaGreat
