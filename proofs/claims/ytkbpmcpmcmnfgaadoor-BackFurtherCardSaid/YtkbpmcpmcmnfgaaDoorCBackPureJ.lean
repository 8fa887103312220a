/- Layer 12, plain: one more cause, behind all others. -/
import Derived.Test.YtkbpmcpmcmnfgaaDoorCFewer
set_option linter.unusedVariables false
set_option linter.unusedSimpArgs false
set_option linter.all false
namespace Go.Proofs.YtkbpmcpmcmnfgaaDoor

def moreC (c : Claim) (x : Cause) : Claim := { c with causes := c.causes ++ [x] }
theorem exts_snoc {l : List Cause} {x : Cause} {t : List Int} : t ∈ exts (l ++ [x]) ↔ ∃ u ∈ exts l, ∃ v ∈ vals x, t = u ++ [v] := by
  rw [← allT_exts, allT, allGo_snoc, List.mem_flatMap]
  have h : ∀ u, u ∈ allGo [[]] l ↔ u ∈ exts l := fun u => by rw [← allT_exts]; rfl
  constructor
  · rintro ⟨u, hu, ht⟩
    obtain ⟨v, hv, rfl⟩ := List.mem_map.1 ht
    exact ⟨u, (h u).1 hu, v, hv, rfl⟩
  · rintro ⟨u, hu, v, hv, rfl⟩
    exact ⟨u, (h u).2 hu, List.mem_map.2 ⟨v, hv, rfl⟩⟩
section
variable {c : Claim} {x : Cause}
theorem len_more {t : List Int} (h : t.length = c.causes.length) (v : Int) (f : Nat) : len (moreC c x) (t ++ [v]) f = len c t f + v * x.per.getD f 0 := by
  have h2 : (t ++ [v]).length = (moreC c x).causes.length := by show (t ++ [v]).length = (c.causes ++ [x]).length; simp [h]
  rw [len_dot h2, len_dot h]
  show (c.feats.getD f dFeat).nom + dotF f (c.causes ++ [x]) (t ++ [v]) = _
  rw [dotF_snoc _ _ _ _ _ h]
  omega
theorem agree_more {t : List Int} (h : t.length = c.causes.length) : t ++ [0] ∈ agreeL (moreC c x) ↔ t ∈ agreeL c := by
  have hm : ∀ y, measOk (moreC c x) (t ++ [0]) y = measOk c t y := fun y => measOk_congr (c := c) (d := moreC c x) rfl (fun f => by rw [len_more h]; omega) y
  rw [agree_mem, agree_mem]
  constructor
  · rintro ⟨h1, h2⟩
    obtain ⟨u, hu, v, hv, he⟩ := exts_snoc.1 h1
    have he2 : t = u := (List.append_inj he (by rw [h]; exact (exts_len_of hu).symm)).1
    subst he2
    exact ⟨hu, fun y hy => by rw [← hm]; exact h2 y hy⟩
  · rintro ⟨h1, h2⟩
    exact ⟨exts_snoc.2 ⟨t, h1, 0, vals_mem0 x, rfl⟩, fun y hy => by rw [hm]; exact h2 y hy⟩
theorem more_err (h : err (moreC c x) = 0) : err c = 0 := by
  obtain ⟨h1, h2, h3, h4, h5, h6⟩ := check_zero h
  have hl : (moreC c x).causes.length = c.causes.length + 1 := by show (c.causes ++ [x]).length = _; simp
  obtain ⟨h7, h8⟩ := causes_right.1 h4
  have hs : c.causes.Sublist (moreC c x).causes := List.sublist_append_left _ _
  unfold err
  rw [check_ok (c := c) h1 h2 (by omega) (causes_right.2 ⟨h7.sublist hs, fun y hy => h8 y (hs.subset hy)⟩) h5 h6]
theorem set_more (t : List Int) : setL (t ++ [0]) = setL t := by
  unfold setL
  rw [List.length_append, List.length_singleton, range_filter_succ, if_neg (by simp), List.append_nil]
  congr 1
  refine List.filter_congr fun i hi => ?_
  have hi := List.mem_range.1 hi
  rw [List.getD_eq_getElem?_getD, List.getElem?_append_left hi, ← List.getD_eq_getElem?_getD]
theorem getD_snoc0 (t : List Int) (i : Nat) : (t ++ [(0 : Int)]).getD i 0 = t.getD i 0 := by
  rw [List.getD_eq_getElem?_getD, List.getD_eq_getElem?_getD]
  by_cases hi : i < t.length
  · rw [List.getElem?_append_left hi]
  · rw [List.getElem?_append_right (by omega), List.getElem?_eq_none (by omega : t.length ≤ i)]
    by_cases h0 : i - t.length = 0
    · rw [h0]; rfl
    · rw [List.getElem?_eq_none (by simp; omega)]
/-- each set that explained the claim still does, or a part of it -/
theorem more_sets (h : err (moreC c x) = 0) {s : List Int} (hs : s ∈ setsL c) : ∃ u ∈ setsL (moreC c x), partL u s = true := by
  have hc := okC_of (more_err h)
  obtain ⟨⟨t, ht, rfl⟩, _⟩ := (sets_mem hc).1 hs
  have := some_least (okC_of h) _ _ ((agree_more (x := x) (agree_ok hc ht).1).2 ht) (Nat.le_refl _)
  rw [set_more] at this
  exact this
theorem more_some (h : err (moreC c x) = 0) (ha : agreeL c ≠ []) : agreeL (moreC c x) ≠ [] := by
  obtain ⟨t, ht⟩ := List.exists_mem_of_ne_nil _ ha
  exact List.ne_nil_of_mem ((agree_more (x := x) (agree_ok (okC_of (more_err h)) ht).1).2 ht)
theorem more_must (h : err (moreC c x) = 0) (ha : agreeL c ≠ []) : partL (mustL (moreC c x)) (mustL c) = true := by
  have hc := okC_of (more_err h)
  rw [partL_iff]
  intro z hz
  obtain ⟨i, rfl⟩ := must_nat hz
  obtain ⟨h1, h2⟩ := mem_must.1 hz
  have h3 : ∀ t ∈ agreeL c, 0 < t.getD i 0 := fun t ht => by
    have := h2 _ ((agree_more (x := x) (agree_ok hc ht).1).2 ht)
    rwa [getD_snoc0] at this
  obtain ⟨t, ht⟩ := List.exists_mem_of_ne_nil _ ha
  refine mem_must.2 ⟨?_, h3⟩
  have := h3 t ht
  refine Classical.byContradiction fun hn => ?_
  rw [List.getD_eq_getElem?_getD, List.getElem?_eq_none (by rw [(agree_ok hc ht).1]; omega)] at this
  simp at this
theorem more_may (h : err (moreC c x) = 0) : partL (mayL c) (mayL (moreC c x)) = true := by
  have hc := okC_of (more_err h)
  rw [partL_iff]
  intro z hz
  obtain ⟨i, _, rfl⟩ : ∃ i : Nat, i ∈ (List.range c.causes.length).filter (isMay (agreeL c)) ∧ (i : Int) = z := List.mem_map.1 hz
  obtain ⟨h1, t, ht, h2⟩ := mem_may.1 hz
  refine mem_may.2 ⟨by show i < (c.causes ++ [x]).length; simp; omega, t ++ [0], (agree_more (x := x) (agree_ok hc ht).1).2 ht, by rw [getD_snoc0]; exact h2⟩
/-- where no truth agreed, the new cause must be there -/
theorem more_new (h : err (moreC c x) = 0) (ha : agreeL c = []) : (c.causes.length : Int) ∈ mustL (moreC c x) := by
  have hd := okC_of h
  refine mem_must.2 ⟨by show c.causes.length < (c.causes ++ [x]).length; simp, fun t' ht' => ?_⟩
  obtain ⟨h1, _⟩ := agree_mem.1 ht'
  obtain ⟨u, hu, v, hv, rfl⟩ := exts_snoc.1 h1
  have hul := exts_len_of hu
  have hget : (u ++ [v]).getD c.causes.length 0 = v := by
    rw [List.getD_eq_getElem?_getD, List.getElem?_append_right (by omega), hul]; simp
  rw [hget]
  have hv0 : 0 ≤ v := ((agree_ok hd ht').2 v (by simp)).1
  by_cases hz : v = 0
  · subst hz
    have := (agree_more (x := x) hul).1 ht'
    rw [ha] at this
    cases this
  · omega
end

end Go.Proofs.YtkbpmcpmcmnfgaaDoor
