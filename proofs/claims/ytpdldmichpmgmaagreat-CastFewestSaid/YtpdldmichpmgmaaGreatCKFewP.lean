/- Layer 7, plain: which moulds there is a plan of, which pieces lack casts. Nothing of a program is stepped through here. -/
import Derived.Test.YtpdldmichpmgmaaGreatCKPlanP
import Derived.Test.YtpdldmichpmgmaaGreatCKRefP
import Derived.Test.YtpdldmichpmgmaaGreatCKRefQ
import Derived.Test.YtpdldmichpmgmaaGreatCTSorts
set_option linter.unusedVariables false
set_option linter.unusedSimpArgs false
set_option linter.all false
namespace Go.Proofs.YtpdldmichpmgmaaGreat

theorem lexC_of_take : ∀ {a b : List Int} {k : Nat} {x y : Int}, a.take k = b.take k → a[k]? = some x → b[k]? = some y → x < y → lexC a b < 0
  | [], _, k, x, _, _, h, _, _ => by simp at h
  | _ :: _, [], k, _, y, _, _, h, _ => by simp at h
  | u :: a, v :: b, 0, x, y, _, h1, h2, hxy => by
    simp at h1 h2
    subst h1; subst h2
    exact lexC_neg.2 (.inl hxy)
  | u :: a, v :: b, k + 1, x, y, ht, h1, h2, hxy => by
    rw [List.take_succ_cons, List.take_succ_cons] at ht
    injection ht with e1 e2
    refine lexC_neg.2 (.inr ⟨e1, lexC_of_take e2 (by simpa using h1) (by simpa using h2) hxy⟩)
/-- the order of the sets: the shorter ones first, then number by number -/
def BefS (a b : List Int) : Prop := a.length < b.length ∨ (a.length = b.length ∧ lexC a b < 0)
theorem sets_bef {n : Nat} (hn : n < 9) : (setsL n).Pairwise BefS := by
  unfold setsL
  rw [List.pairwise_flatMap]
  refine ⟨fun k hk => ?_, ?_⟩
  · have hk9 : k < 9 := by have := List.mem_range.1 hk; omega
    have h := lex_pair n hn k hk9
    refine List.Pairwise.imp_of_mem (fun {a b} ha hb hl => .inr ⟨?_, hl⟩) h
    rw [(lex_set ha).2, (lex_set hb).2]
  · refine List.Pairwise.imp (fun {i j} hij x hx y hy => .inl ?_) (List.pairwise_lt_range (n := n + 1))
    rw [(lex_set hx).2, (lex_set hy).2]; exact hij
theorem bef_irr {a b : List Int} (h : BefS a b) (h2 : BefS b a) : False := by
  rcases h with h | ⟨h, h1⟩
  · rcases h2 with h2 | ⟨h2, _⟩ <;> omega
  · rcases h2 with h2 | ⟨_, h3⟩
    · omega
    · have := lexC_trans _ _ _ h1 h3
      rw [lexC_refl] at this
      omega
/-- what stands before in a list that is in order -/
theorem bef_in {n : Nat} (hn : n < 9) {A B : List (List Int)} {u t : List Int} (e : setsL n = A ++ u :: B) (ht : t ∈ setsL n) (h : BefS t u) : t ∈ A := by
  have hp := sets_bef hn
  rw [e] at hp ht
  rcases List.mem_append.1 ht with h1 | h1
  · exact h1
  · exfalso
    have hp2 := (List.pairwise_append.1 hp).2.1
    rcases List.mem_cons.1 h1 with h1 | h1
    · rw [h1] at h; exact bef_irr h h
    · exact bef_irr h ((List.pairwise_cons.1 hp2).1 t h1)
theorem only_lack {s : Shop} {l : List SeenC} {p : List (Int × Int)} {set : List Int} (h0 : orderE s l p = 0) : (fewestL (onlyL (allL s l p) set [])).isSome = true ↔ ¬ CanS (allL s l p) set := by
  obtain ⟨hok, hne, _, _⟩ := order_zero h0
  have hu := fun j => all_hu (p := p) hok hne j
  have h1 := fewest_iff (only_hu hu set []) hF8
  have h2 := can_only (all := allL s l p) (set := set) (but := []) (i := 0) (Nat.zero_le _)
  rw [List.drop_zero] at h2
  rw [h2] at h1
  have h3 : CanP (allL s l p) (fun a => hasN set a.1) (fun j => decide (0 ≤ j)) [] (allL s l p).length ↔ CanS (allL s l p) set := ⟨fun h => can_congr (fun j _ => by simp) h, fun h => can_congr (fun j _ => by simp) h⟩
  rw [h3] at h1
  rw [← h1]
  cases fewestL (onlyL (allL s l p) set []) <;> simp
theorem plan_nonempty {o : List (List Pl)} {set : List Int} (h : CanS o set) (ho : 1 ≤ o.length) : 1 ≤ set.length := by
  obtain ⟨M, h1, _⟩ := h
  have := (h1 0 (by omega) rfl).2.1
  unfold hasN at this
  simp only [decide_eq_true_eq] at this
  exact List.length_pos_of_mem this
theorem fewest_none {s : Shop} {l : List SeenC} {p : List (Int × Int)} {set : List Int} (h0 : orderE s l p = 0) (hs : set ∈ setsL s.moulds.length) (h : (planR s l p).2.2 ≠ 0) : (planR s l p).2.2 = 8 ∧ (fewestL (onlyL (allL s l p) set [])).isSome = true := by
  rcases plan_cases h0 with ⟨A, u, B, e1, e2, e3, e4⟩ | ⟨h1, h2⟩
  · rw [e4] at h; exact absurd rfl h
  · exact ⟨by rw [h2], (only_lack h0).2 (h1 set hs)⟩
theorem fewest_bef {s : Shop} {l : List SeenC} {p : List (Int × Int)} {set : List Int} (h0 : orderE s l p = 0) (hn : s.moulds.length < 9) (hs : set ∈ setsL s.moulds.length) (h : (planR s l p).2.2 = 0) : 1 ≤ (planR s l p).2.1.length ∧ (BefS set (planR s l p).2.1 → (fewestL (onlyL (allL s l p) set [])).isSome = true) := by
  obtain ⟨_, _, hp1, _⟩ := order_zero h0
  rcases plan_cases h0 with ⟨A, u, B, e1, e2, e3, e4⟩ | ⟨h1, h2⟩
  · rw [e4]
    dsimp only
    exact ⟨plan_nonempty e3 (by rw [allL_len]; exact hp1), fun hb => (only_lack h0).2 (e2 _ (bef_in hn e1 hs hb))⟩
  · rw [h2] at h; cases h
theorem sets_few (n : Nat) : setsL n = [] :: fewU n n := sets_first n
theorem lacksR_0 {s : Shop} {l : List SeenC} {p : List (Int × Int)} (h0 : orderE s l p = 0) : lacksR s l p = match fewestL (allL s l p) with | some X => (X, 0) | none => ([], 4) := by
  obtain ⟨hok, hne, _, _⟩ := order_zero h0
  have hf := lacks_find (fun j => all_hu (p := p) hok hne j) hF8
  rw [allL_len] at hf
  rw [lacksR, if_neg (by simp [h0]), hf]
  cases fewestL (allL s l p) <;> rfl
theorem few_mem {n : Nat} {x : List Int} (hx : x ∈ setsL n) (h1 : 1 ≤ x.length) : x ∈ fewU n n := by
  rw [sets_few] at hx
  rcases List.mem_cons.1 hx with e | e
  · rw [e] at h1; simp at h1
  · exact e
theorem lacks_none7 {s : Shop} {l : List SeenC} {p : List (Int × Int)} (h0 : orderE s l p = 0) (h : fewestL (allL s l p) = none) : (planR s l p).2.2 = 0 ∧ ∀ x ∈ setsL p.length, 1 ≤ x.length → lackB (allL s l p) x = false := by
  obtain ⟨hok, hne, _, _⟩ := order_zero h0
  refine ⟨plan_ok h0 ((fewest_iff (fun j => all_hu (p := p) hok hne j) hF8).1 h), fun x hx h1 => ?_⟩
  rw [fewest_def, allL_len, List.find?_eq_none] at h
  have := h x (few_mem hx h1)
  simpa using this
theorem lacks_some7 {s : Shop} {l : List SeenC} {p : List (Int × Int)} {X : List Int} (h0 : orderE s l p = 0) (h : fewestL (allL s l p) = some X) : (planR s l p).2.2 = 8 ∧ 1 ≤ X.length ∧ IsSet p.length X ∧ lackB (allL s l p) X = true ∧ ∀ x ∈ setsL p.length, 1 ≤ x.length → lackB (allL s l p) x = true → X.length ≤ x.length := by
  obtain ⟨hok, hne, _, _⟩ := order_zero h0
  have hno : ¬ CanP (allL s l p) (fun _ => true) (fun _ => true) [] (allL s l p).length := fun hc => by
    rw [(fewest_iff (fun j => all_hu (p := p) hok hne j) hF8).2 hc] at h; cases h
  rw [fewest_def, allL_len] at h
  rw [List.find?_eq_some_iff_append] at h
  obtain ⟨h1, A, B, h2, h3⟩ := h
  have hX : X ∈ fewU p.length p.length := by rw [h2]; simp
  have hXs : X ∈ setsL p.length := by rw [sets_few]; exact List.mem_cons_of_mem _ hX
  have hX1 : 1 ≤ X.length := by
    unfold fewU at hX
    obtain ⟨k, _, hk⟩ := List.mem_flatMap.1 hX
    rw [(lex_set hk).2]; omega
  refine ⟨plan_none h0 hno, hX1, sets_set hXs, h1, fun x hx hx1 hxl => ?_⟩
  have hord := sets_order p.length
  rw [sets_few, h2] at hord
  have hord := (List.pairwise_cons.1 hord).2
  have hxf := few_mem hx hx1
  rw [h2] at hxf
  rcases List.mem_append.1 hxf with hm | hm
  · have := h3 x hm
    rw [hxl] at this
    simp at this
  · rcases List.mem_cons.1 hm with hm | hm
    · rw [hm]; exact Nat.le_refl _
    · exact (List.pairwise_cons.1 (List.pairwise_append.1 hord).2.1).1 x hm
end Go.Proofs.YtpdldmichpmgmaaGreat
