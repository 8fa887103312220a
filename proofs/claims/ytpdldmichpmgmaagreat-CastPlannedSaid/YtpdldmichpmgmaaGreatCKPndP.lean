/- Layer 7, plain: what a plan is: no cast twice, each one of Fits for its piece, and just the moulds that it says. Nothing of a program is stepped through here. -/
import Derived.Test.YtpdldmichpmgmaaGreatCKMorP
import Derived.Test.YtpdldmichpmgmaaGreatCKPlanP
set_option linter.unusedVariables false
set_option linter.unusedSimpArgs false
set_option linter.all false
namespace Go.Proofs.YtpdldmichpmgmaaGreat

theorem planned {s : Shop} {l : List SeenC} {p : List (Int × Int)} (h0 : orderE s l p = 0) :
    planR s l p = ([], [], 8) ∨ ∃ P u, planR s l p = (P, u, 0) ∧ P.length = p.length ∧ P.Nodup ∧ (∀ i a, P[i]? = some a → a ∈ fit7 s l (p.getD i (0, 0)).1 (p.getD i (0, 0)).2 ∧ (a.1 : Int) ∈ u) ∧ IsSet s.moulds.length u ∧ ∀ x ∈ u, ∃ a ∈ P, (a.1 : Int) = x := by
  rcases plan_cases h0 with ⟨A, u, B, e1, e2, e3, e4⟩ | ⟨_, e⟩
  · right
    obtain ⟨hok, hne, _, _⟩ := order_zero h0
    have hlen : (allL s l p).length = p.length := allL_len _ _ _
    have hc := plan_can (fun j => all_hu (p := p) hok hne j) hF8 e3 p.length (by rw [hlen]; exact Nat.le_refl _)
    obtain ⟨c1, _, c3, c4⟩ := hc
    have hu : u ∈ setsL s.moulds.length := by rw [e1]; simp
    refine ⟨_, u, e4, c1, c3, fun i a hi => ?_, sets_set hu, fun x hx => ?_⟩
    · obtain ⟨d1, d2⟩ := c4 i a hi
      rw [allL_get, if_pos (by have := (List.getElem?_eq_some_iff.1 hi).1; omega)] at d1
      exact ⟨d1, by unfold hasN at d2; simpa using d2⟩
    · by_cases hex : ∃ a ∈ planK (allL s l p) u p.length, (a.1 : Int) = x
      · exact hex
      · exfalso
        obtain ⟨u2, hu2⟩ : ∃ u2, u.filter (fun y => decide (y ≠ x)) = u2 := ⟨_, rfl⟩
        have hs2 : u2 ∈ setsL s.moulds.length := sets_mem.2 (by rw [← hu2]; exact List.filter_sublist.trans (sets_mem.1 hu))
        have hl2 : u2.length < u.length := by
          have h1 : u2.length ≤ u.length := by rw [← hu2]; exact List.length_filter_le _ _
          by_cases h2 : u2.length = u.length
          · have h3 : u2 = u := by
              have hsub : u2.Sublist u := by rw [← hu2]; exact List.filter_sublist
              exact hsub.eq_of_length h2
            rw [← h3, ← hu2] at hx
            simp at hx
          · omega
        have hcan : CanS (allL s l p) u2 := by
          refine ⟨fun j => (planK (allL s l p) u p.length).getD j (0, 0), fun j hj _ => ?_, fun i j hi hj _ _ hij => ?_⟩
          · rw [hlen] at hj
            have hg : (planK (allL s l p) u p.length)[j]? = some ((planK (allL s l p) u p.length)[j]'(by rw [c1]; exact hj)) := List.getElem?_eq_getElem _
            have hM : (planK (allL s l p) u p.length).getD j (0, 0) = (planK (allL s l p) u p.length)[j]'(by rw [c1]; exact hj) := getD_of hg
            dsimp only
            rw [hM]
            obtain ⟨d1, d2⟩ := c4 j _ hg
            refine ⟨d1, ?_, by simp⟩
            unfold hasN at d2 ⊢
            rw [decide_eq_true_eq] at d2 ⊢
            rw [← hu2]
            exact List.mem_filter.2 ⟨d2, by simpa using fun e => hex ⟨_, List.mem_of_getElem? hg, e⟩⟩
          · rw [hlen] at hi hj
            have hi' : i < (planK (allL s l p) u p.length).length := by rw [c1]; exact hi
            have hj' : j < (planK (allL s l p) u p.length).length := by rw [c1]; exact hj
            dsimp only at hij
            rw [List.getD_eq_getElem?_getD, List.getD_eq_getElem?_getD, List.getElem?_eq_getElem hi', List.getElem?_eq_getElem hj', Option.getD_some, Option.getD_some] at hij
            exact (List.getElem_inj c3).1 hij
        have ho := sets_order s.moulds.length
        rw [e1] at hs2 ho
        rw [List.pairwise_append] at ho
        rcases List.mem_append.1 hs2 with hm | hm
        · exact e2 u2 hm hcan
        · rcases List.mem_cons.1 hm with hm | hm
          · rw [hm] at hl2; omega
          · have := (List.pairwise_cons.1 ho.2.1).1 u2 hm
            omega
  · exact .inl e
/-- no cast stands twice -/
theorem planned_new {P : List Pl} (h : P.Nodup) {i : Nat} {a : Pl} (hi : P[i]? = some a) : a ∉ P.take i := by
  intro hm
  obtain ⟨j, hj, e⟩ := List.getElem_of_mem hm
  obtain ⟨hil, hi2⟩ := List.getElem?_eq_some_iff.1 hi
  rw [List.length_take] at hj
  rw [List.getElem_take, ← hi2] at e
  have := (List.getElem_inj h).1 e
  omega
end Go.Proofs.YtpdldmichpmgmaaGreat
