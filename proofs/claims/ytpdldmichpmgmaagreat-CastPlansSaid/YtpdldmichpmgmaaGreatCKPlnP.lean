/- Layer 7, plain: the reference's way to a plan, and to the most pieces, is the program's. Nothing of a program is stepped through here. -/
import Derived.Test.YtpdldmichpmgmaaGreatCCastSomes
import Derived.Test.YtpdldmichpmgmaaGreatCKFews
set_option linter.unusedVariables false
set_option linter.unusedSimpArgs false
set_option linter.all false
namespace Go.Proofs.YtpdldmichpmgmaaGreat

theorem num_sub : ∀ (n f : Nat) (x : List Int), x.Pairwise (· < ·) → (∀ i ∈ x, (f : Int) ≤ i ∧ i < (f + n : Nat)) → x.Sublist ((List.range' f n).map fun i : Nat => (i : Int))
  | 0, f, [], _, _ => List.Sublist.refl _
  | 0, f, y :: x, _, h => by have := h y (by simp); omega
  | n + 1, f, [], _, _ => by simp
  | n + 1, f, y :: x, hp, h => by
    rw [List.range'_succ, List.map_cons]
    obtain ⟨h1, h2⟩ := List.pairwise_cons.1 hp
    by_cases hy : y = f
    · rw [hy]
      refine List.Sublist.cons_cons _ (num_sub n (f + 1) x h2 fun i hi => ?_)
      have a1 := h1 i hi
      have a2 := h i (by simp [hi])
      omega
    · refine List.Sublist.cons _ (num_sub n (f + 1) (y :: x) hp fun i hi => ?_)
      have a2 := h i hi
      have a3 := h y (by simp)
      rcases List.mem_cons.1 hi with e | e
      · rw [e]; omega
      · have a1 := h1 i e
        omega
theorem set_sub {n : Nat} {x : List Int} (h : IsSet n x) : x.Sublist (numbersL n) := by
  have := num_sub n 0 x h.1 (fun i hi => by have := h.2 i hi; omega)
  unfold numbersL
  rwa [List.range_eq_range']
theorem set_lex {n : Nat} {x : List Int} (h : IsSet n x) : x ∈ lexL x.length (numbersL n) := lex_of_sub (set_sub h)
/-- is there a plan of the casts of some moulds, as the reference asks -/
def planB (all : List (List Pl)) (set : List Int) : Bool := (fewestL (onlyL all set [])).isNone
theorem planB_iff {s : Shop} {l : List SeenC} {p : List (Int × Int)} {set : List Int} (h0 : orderE s l p = 0) : planB (allL s l p) set = true ↔ CanS (allL s l p) set := by
  have h := only_lack (set := set) h0
  unfold planB
  cases hf : fewestL (onlyL (allL s l p) set []) with
  | none =>
    rw [hf] at h
    simp only [Option.isNone_none, true_iff]
    exact Classical.byContradiction fun hn => by have := h.2 hn; cases this
  | some x =>
    rw [hf] at h
    simp only [Option.isNone_some, Bool.false_eq_true, false_iff]
    exact h.1 rfl
/-- the reference's answer: the first list of moulds, of which there is a plan -/
theorem plan_found {s : Shop} {l : List SeenC} {p : List (Int × Int)} {k j : Nat} {t : List Int} (h0 : orderE s l p = 0) (hk : k < s.moulds.length) (h1 : ∀ x ∈ fewU s.moulds.length k, planB (allL s l p) x = false) (h2 : ∀ x ∈ (lexL (k + 1) (numbersL s.moulds.length)).take j, planB (allL s l p) x = false)
    (ht : (lexL (k + 1) (numbersL s.moulds.length))[j]? = some t) (hp : planB (allL s l p) t = true) : planR s l p = (firstL (allL s l p) t p.length, t, 0) := by
  have hf := few_found (p := planB (allL s l p)) hk h1 h2 ht hp
  obtain ⟨hok, hne, hp1, hp6⟩ := order_zero h0
  have hu := fun j => all_hu (p := p) hok hne j
  have hnil : planB (allL s l p) [] = false := by
    cases hb : planB (allL s l p) [] with
    | false => rfl
    | true => have := plan_nonempty ((planB_iff h0).1 hb) (by rw [allL_len]; exact hp1); simp at this
  have hs : (setsL s.moulds.length).find? (planB (allL s l p)) = some t := by rw [sets_few, List.find?_cons, hnil]; exact hf
  rcases plan_cases h0 with ⟨A, u, B, e1, e2, e3, e4⟩ | ⟨g1, g2⟩
  · have hA : ∀ x ∈ A, planB (allL s l p) x = false := fun x hx => by
      cases hb : planB (allL s l p) x with
      | false => rfl
      | true => exact absurd ((planB_iff h0).1 hb) (e2 x hx)
    rw [e1, find_first hA ((planB_iff h0).2 e3)] at hs
    injection hs with hs
    subst hs
    rw [e4, plan_first hu hF8 p.length (by rw [allL_len]; exact Nat.le_refl _)]
  · have := List.find?_some hs
    exact absurd ((planB_iff h0).1 this) (g1 t (List.mem_of_find?_eq_some hs))
theorem plan_not {s : Shop} {l : List SeenC} {p : List (Int × Int)} (h0 : orderE s l p = 0) (h : ∀ x ∈ fewU s.moulds.length s.moulds.length, planB (allL s l p) x = false) : planR s l p = ([], [], 8) := by
  obtain ⟨hok, hne, hp1, hp6⟩ := order_zero h0
  rcases plan_cases h0 with ⟨A, u, B, e1, e2, e3, e4⟩ | ⟨g1, g2⟩
  · exfalso
    have hu : u ∈ setsL s.moulds.length := by rw [e1]; simp
    have hl := plan_nonempty e3 (by rw [allL_len]; exact hp1)
    have := h u (few_mem hu hl)
    rw [(planB_iff h0).2 e3] at this
    cases this
  · exact g2
/-- can some pieces be given casts, as the reference asks -/
def someB (all : List (List Pl)) (set : List Int) : Bool := (fewestL (chosenL all set)).isNone
theorem someB_iff {s : Shop} {l : List SeenC} {p : List (Int × Int)} {set : List Int} (h0 : orderE s l p = 0) (hs : IsSet p.length set) : someB (allL s l p) set = true ↔ CanP (allL s l p) (fun _ => true) (fun j => hasN set j) [] (allL s l p).length := by
  obtain ⟨hok, hne, _, _⟩ := order_zero h0
  have hu := fun j => all_hu (p := p) hok hne j
  have h1 := fewest_iff (chosen_hu hu set) hF8
  rw [chosen_can (by rw [allL_len]; exact hs)] at h1
  rw [← h1]
  unfold someB
  cases fewestL (chosenL (allL s l p) set) <;> simp
/-- the lists of Some, of so many pieces and more -/
theorem some_found {s : Shop} {l : List SeenC} {p : List (Int × Int)} {k j : Nat} {t : List Int} (h0 : orderE s l p = 0) (h1 : ∀ x, IsSet p.length x → k < x.length → someB (allL s l p) x = false) (h2 : ∀ x ∈ (lexL k (numbersL p.length)).take j, someB (allL s l p) x = false)
    (ht : (lexL k (numbersL p.length))[j]? = some t) (hp : someB (allL s l p) t = true) : someR s l p = (t, 0) := by
  obtain ⟨hok, hne, hp1, hp6⟩ := order_zero h0
  have hu := fun j => all_hu (p := p) hok hne j
  obtain ⟨e, hG⟩ := some_set h0
  have hm : t ∈ lexL k (numbersL p.length) := List.mem_of_getElem? ht
  obtain ⟨hts, htl⟩ := lex_set hm
  have hmost := some_most hu hF8 (J := t) (by rw [allL_len]; exact hts) ((someB_iff h0 hts).1 hp)
  rw [allL_len] at hmost
  have hcanG : CanP (allL s l p) (fun _ => true) (fun j => hasN (someK (allL s l p) p.length) j) [] (allL s l p).length := by
    exact (some_inv hu hF8 p.length (by rw [allL_len]; exact Nat.le_refl _)).2.1
  have hGl : (someK (allL s l p) p.length).length = k := by
    by_cases hlt : k < (someK (allL s l p) p.length).length
    · have := h1 _ hG hlt
      rw [(someB_iff h0 hG).2 hcanG] at this
      cases this
    · omega
  rw [e]
  have hGm : someK (allL s l p) p.length ∈ lexL k (numbersL p.length) := by
    rw [← hGl]; exact set_lex hG
  suffices hEq : someK (allL s l p) p.length = t by rw [hEq]
  by_cases hlt : lexC t (someK (allL s l p) p.length) < 0
  · exfalso
    exact some_first hu hF8 (J := t) (by rw [allL_len]; exact hts) (by rw [allL_len, htl, hGl]) (by rw [allL_len]; exact hlt) ((someB_iff h0 hts).1 hp)
  · by_cases hgt : lexC (someK (allL s l p) p.length) t < 0
    · exfalso
      have hp2 := lex_pair p.length (by omega) k (by have := set_len hG; omega)
      obtain ⟨hj, hj2⟩ := List.getElem?_eq_some_iff.1 ht
      obtain ⟨i, hi, hi2⟩ := List.getElem_of_mem hGm
      have hij : i < j := by
        rcases Nat.lt_trichotomy i j with h | h | h
        · exact h
        · subst h; rw [hi2] at hj2; rw [hj2, lexC_refl] at hgt; omega
        · have := List.pairwise_iff_getElem.1 hp2 j i hj hi h
          rw [hj2, hi2] at this
          exact absurd this hlt
      have := h2 (someK (allL s l p) p.length) (List.mem_iff_getElem?.2 ⟨i, by rw [List.getElem?_take, if_pos hij, List.getElem?_eq_getElem hi, hi2]⟩)
      rw [(someB_iff h0 hG).2 hcanG] at this
      cases this
    · exact (lexC_tri _ _ hgt hlt)
theorem some_not {s : Shop} {l : List SeenC} {p : List (Int × Int)} (h0 : orderE s l p = 0) (h1 : ∀ x, IsSet p.length x → 0 < x.length → someB (allL s l p) x = false) : someR s l p = ([], 0) := by
  obtain ⟨hok, hne, _, _⟩ := order_zero h0
  have hu := fun j => all_hu (p := p) hok hne j
  obtain ⟨e, hG⟩ := some_set h0
  have hc := (some_inv hu hF8 p.length (by rw [allL_len]; exact Nat.le_refl _)).2.1
  have hz : someK (allL s l p) p.length = [] := by
    by_cases hlt : 0 < (someK (allL s l p) p.length).length
    · have := h1 _ hG hlt
      rw [(someB_iff h0 hG).2 hc] at this
      cases this
    · exact List.eq_nil_of_length_eq_zero (by omega)
  rw [e, hz]
end Go.Proofs.YtpdldmichpmgmaaGreat
