/- Layer 7, plain: with one more cast that is seen no range is wider, no cast stops to fit, and a plan uses no more moulds. Nothing of a program is stepped through here. -/
import Derived.Test.YtpdldmichpmgmaaGreatCKLarP
import Derived.Test.YtpdldmichpmgmaaGreatCKPlanP
set_option linter.unusedVariables false
set_option linter.unusedSimpArgs false
set_option linter.all false
namespace Go.Proofs.YtpdldmichpmgmaaGreat

section
variable {s : Shop} {l l' : List SeenC}
theorem twos_sub (hk : OkS s) (h : ∀ y ∈ l', y ∈ l) {m : Nat} (hm : m < s.moulds.length) {k : Int} {p : Int × Int} (hp : p ∈ twosC s l m k) : p ∈ twosC s l' m k := by
  rw [twos_mem hk hm] at hp ⊢
  refine ⟨hp.1, twoOk_iff.2 fun y hy e => ?_⟩
  exact twoOk_iff.1 hp.2 y (h y hy) e
theorem known_sub (hk : OkS s) (h : ∀ y ∈ l', y ∈ l) {k : Int} (hp : k ∈ known7 s l) : k ∈ known7 s l' := by
  rw [known_iff] at hp ⊢
  refine ⟨hp.1, fun m hm => ?_⟩
  obtain ⟨p, hp⟩ := hp.2 m hm
  exact ⟨p, twos_sub hk h hm hp⟩
theorem made_sub (hk : OkS s) (h : ∀ y ∈ l', y ∈ l) {m : Nat} (hm : m < s.moulds.length) {c x : Int} (hp : x ∈ madeL s l m c) : x ∈ madeL s l' m c := by
  rw [made_mem] at hp ⊢
  obtain ⟨k, hkk, p, hp, e⟩ := hp
  exact ⟨k, known_sub hk h hkk, p, twos_sub hk h hm hp, e⟩
theorem size_sub (hk : OkS s) (h : ∀ y ∈ l', y ∈ l) (hne : known7 s l ≠ []) {m : Nat} (hm : m < s.moulds.length) (c : Int) : (size7 s l' m c).1 ≤ (size7 s l m c).1 ∧ (size7 s l m c).2 ≤ (size7 s l' m c).2 :=
  ends_sub7 (made_ne hm hne) fun _ hx => made_sub hk h hm hx
theorem fit_sub (hk : OkS s) (h : ∀ y ∈ l', y ∈ l) (hne : known7 s l ≠ []) {a z : Int} {p : Pl} (hp : p ∈ fit7 s l' a z) : p ∈ fit7 s l a z := by
  unfold fit7 at hp ⊢
  rw [List.mem_filter] at hp ⊢
  simp only [Bool.and_eq_true, decide_eq_true_eq] at hp ⊢
  obtain ⟨h1, h2, h3⟩ := hp
  have := size_sub hk h hne (places_mem.1 h1).1 (p.2 : Int)
  exact ⟨h1, by omega, by omega⟩
theorem can_more {o o' : List (List Pl)} {ok : Pl → Bool} {is : Nat → Bool} {fixed : List Pl} {n : Nat} (hs : ∀ j, ∀ a ∈ o.getD j [], a ∈ o'.getD j []) (h : CanP o ok is fixed n) : CanP o' ok is fixed n := by
  obtain ⟨M, m1, m2⟩ := h
  exact ⟨M, fun j hj h1 => ⟨hs j _ (m1 j hj h1).1, (m1 j hj h1).2⟩, m2⟩
theorem allL_get (s : Shop) (l : List SeenC) (p : List (Int × Int)) (j : Nat) : (allL s l p).getD j [] = if j < p.length then fit7 s l (p.getD j (0, 0)).1 (p.getD j (0, 0)).2 else [] := by
  unfold allL
  rw [List.getD_eq_getElem?_getD, List.getElem?_map]
  split
  · rename_i h
    rw [getD_of (List.getElem?_eq_getElem h), List.getElem?_eq_getElem h]
    rfl
  · rename_i h
    rw [List.getElem?_eq_none (by omega)]
    rfl
theorem plans_more {p : List (Int × Int)} (h : ∀ y ∈ l', y ∈ l) (h1 : orderE s l p = 0) (h2 : orderE s l' p = 0) :
    (planR s l' p).2.2 = 8 ∨ ((planR s l' p).2.2 = 0 ∧ (planR s l p).2.2 = 0 ∧ (planR s l p).2.1.length ≤ (planR s l' p).2.1.length) := by
  obtain ⟨hok, hne, _, _⟩ := order_zero h1
  have hs : ∀ j, ∀ a ∈ (allL s l' p).getD j [], a ∈ (allL s l p).getD j [] := fun j a ha => by
    rw [allL_get] at ha ⊢
    split
    · rename_i hj; rw [if_pos hj] at ha; exact fit_sub hok h hne ha
    · rename_i hj; rw [if_neg hj] at ha; exact ha
  rcases plan_cases h2 with ⟨A, u, B, e1, e2, e3, e4⟩ | ⟨e1, e2⟩
  · right
    have hu : CanS (allL s l p) u := by
      unfold CanS at e3 ⊢
      have := can_more hs e3
      rwa [allL_len] at this ⊢
    have hmem : u ∈ setsL s.moulds.length := by rw [e1]; simp
    rcases plan_cases h1 with ⟨A', v, B', f1, f2, f3, f4⟩ | ⟨f1, f2⟩
    · refine ⟨by rw [e4], by rw [f4], ?_⟩
      rw [e4, f4]
      dsimp only
      have ho := sets_order s.moulds.length
      rw [f1] at hmem ho
      rw [List.pairwise_append] at ho
      rcases List.mem_append.1 hmem with hm | hm
      · exact absurd hu (f2 u hm)
      · rcases List.mem_cons.1 hm with hm | hm
        · rw [hm]; exact Nat.le_refl _
        · exact (List.pairwise_cons.1 ho.2.1).1 u hm
    · exact absurd hu (f1 u hmem)
  · left
    rw [e2]
end
end Go.Proofs.YtpdldmichpmgmaaGreat
