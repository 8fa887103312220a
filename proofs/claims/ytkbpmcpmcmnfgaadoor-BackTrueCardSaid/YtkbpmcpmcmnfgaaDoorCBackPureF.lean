/- Layer 12, plain: claims whose measures are made of a truth. -/
import Derived.Test.YtkbpmcpmcmnfgaaDoorCFewer
import Derived.Test.YtkbpmcpmcmnfgaaDoorCHelp2
set_option linter.unusedVariables false
set_option linter.unusedSimpArgs false
set_option linter.all false
namespace Go.Proofs.YtkbpmcpmcmnfgaaDoor

theorem exts_idx : ∀ (l : List Cause) (f : Nat → Cause → Int), (∀ i a, a ∈ l → f i a ∈ vals a) → l.mapIdx f ∈ exts l := by
  intro l
  induction l with
  | nil => intro f _; simp [exts]
  | cons x l ih =>
    intro f h
    rw [List.mapIdx_cons]
    exact exts_cons.2 ⟨_, h 0 x List.mem_cons_self, _, ih (fun i => f (i + 1)) (fun i a ha => h (i + 1) a (List.mem_cons_of_mem _ ha)), rfl⟩
theorem truth_exts {c : Claim} (h : OkC c) (x : List Int) : truthR c x ∈ exts c.causes := by
  refine exts_idx _ _ (fun i a ha => ?_)
  obtain ⟨k, hk⟩ := List.getElem?_of_mem ha
  obtain ⟨_, _, h1, h2, h3, h4⟩ := h.cause hk
  unfold truthAt vals
  split
  · exact List.mem_cons_self
  · have h5 : 0 ≤ (turnR x i / 2) % (a.hi - a.lo + 1) := Int.emod_nonneg _ (by omega)
    have h6 : (turnR x i / 2) % (a.hi - a.lo + 1) < a.hi - a.lo + 1 := Int.emod_lt_of_pos _ (by omega)
    refine List.mem_cons_of_mem _ (List.mem_map.2 ⟨((turnR x i / 2) % (a.hi - a.lo + 1)).toNat, List.mem_range.2 (by omega), by omega⟩)
theorem truth_ok {c : Claim} (h : OkC c) (x : List Int) : TruthOk c (truthR c x) := (allT_ok h (by rw [allT_exts]; exact truth_exts h x)).2

theorem lenUpto_told (c : Claim) (t off : List Int) (x : Int) (u : List Int) (f : Nat) : ∀ k, lenUpto (toldC c t off x) u f k = lenUpto c u f k := by
  intro k
  induction k with
  | zero => rfl
  | succ k ih => rw [lenUpto, lenUpto, ih]; rfl
theorem len_told (c : Claim) (t off : List Int) (x : Int) (u : List Int) (f : Nat) : len (toldC c t off x) u f = len c u f := lenUpto_told c t off x u f _
theorem told_mem {c : Claim} {t off : List Int} {x : Int} {y : Meas} (h : y ∈ (toldC c t off x).meas) : ∃ i y0, c.meas[i]? = some y0 ∧ y = ⟨y0.feature, shownAt c t off x i y0⟩ ∧ inB y.shown 0 200000 = true := by
  obtain ⟨i, hi, rfl⟩ := List.mem_map.1 h
  obtain ⟨h1, h2⟩ := List.mem_filter.1 hi
  have hl := List.mem_range.1 h1
  have hx := List.getElem?_eq_getElem hl
  rw [getD_of hx] at h2 ⊢
  exact ⟨i, _, hx, rfl, h2⟩
theorem told_len (c : Claim) (t off : List Int) (x : Int) : (toldC c t off x).meas.length ≤ c.meas.length := by
  unfold toldC toldK
  simp only
  rw [List.length_map]
  exact Nat.le_trans (List.length_filter_le _ _) (by simp)
theorem told_err {c : Claim} (h : err c = 0) (t off : List Int) (x : Int) : err (toldC c t off x) = 0 := by
  obtain ⟨h1, h2, h3, h4, h5, h6⟩ := check_zero h
  have hok := okC_of h
  unfold err
  rw [check_ok (c := toldC c t off x) h1 h2 h3 h4 (by have := told_len c t off x; omega) (fun j hj => ?_)]
  have hx := List.getElem?_eq_getElem hj
  rw [measE_get hx]
  obtain ⟨i, y0, hi, he, hs⟩ := told_mem (List.getElem_mem hj)
  obtain ⟨a1, a2, _, _⟩ := hok.meas hi
  rw [he] at hs ⊢
  simp only at hs ⊢
  have hin : inB y0.feature 0 ((c.feats.length : Int) - 1) = true := inB_iff.2 (by omega)
  rw [show (toldC c t off x).feats = c.feats from rfl, hin, hs]
  rfl
theorem shown_near {c : Claim} (h : OkC c) (t off : List Int) {i : Nat} {y : Meas} (hy : c.meas[i]? = some y) {x : Int} (hx : ¬ x / 2 ^ i % 2 = 1) : len c t y.feature.toNat - (c.feats.getD y.feature.toNat dFeat).err ≤ shownAt c t off x i y ∧ shownAt c t off x i y ≤ len c t y.feature.toNat + (c.feats.getD y.feature.toNat dFeat).err := by
  obtain ⟨a1, a2, _, _⟩ := h.meas hy
  have hf := h.feat (List.getElem?_eq_getElem (show y.feature.toNat < c.feats.length by omega))
  unfold shownAt
  rw [if_neg hx, getD_of (List.getElem?_eq_getElem (show y.feature.toNat < c.feats.length by omega))]
  have h5 := Int.emod_nonneg (turnR off i) (b := 2 * (c.feats[y.feature.toNat]).err + 1) (by omega)
  have h6 := Int.emod_lt_of_pos (turnR off i) (b := 2 * (c.feats[y.feature.toNat]).err + 1) (by omega)
  omega
theorem zero_bits (i : Nat) : ¬ (0 : Int) / 2 ^ i % 2 = 1 := by rw [Int.zero_ediv]; decide
theorem told_agree {c : Claim} (h : OkC c) {t : List Int} (ht : t ∈ exts c.causes) (off : List Int) : t ∈ agreeL (toldC c t off 0) := by
  refine agree_mem.2 ⟨ht, fun y hy => ?_⟩
  obtain ⟨i, y0, hi, rfl, _⟩ := told_mem hy
  have := shown_near h t off hi (zero_bits i)
  unfold measOk
  rw [len_told]
  exact inB_iff.2 this

theorem lessL_len {a b : List Int} (h : lessL a b = true) : a.length ≤ b.length := by
  unfold lessL at h
  split at h
  · have := of_decide_eq_true h; omega
  · rename_i hn; omega
theorem fewer_len : ∀ (l : List (List Int)) (b : List Int), (l.foldl fewer b).length ≤ b.length ∧ ∀ u ∈ l, (l.foldl fewer b).length ≤ u.length := by
  intro l
  induction l with
  | nil => intro b; simp
  | cons u l ih =>
    intro b
    rw [List.foldl_cons]
    obtain ⟨h1, h2⟩ := ih (fewer b u)
    have hb : (fewer b u).length ≤ b.length ∧ (fewer b u).length ≤ u.length := by
      unfold fewer
      cases hl : lessL u b
      · refine ⟨Nat.le_refl _, Nat.le_of_not_lt fun hlt => ?_⟩
        unfold lessL at hl
        rw [if_pos (by simp only [Bool.false_eq_true, if_false] at hlt; omega)] at hl
        simp only [Bool.false_eq_true, if_false] at hlt
        exact absurd hlt (of_decide_eq_false hl)
      · simp only [if_true]
        exact ⟨lessL_len hl, Nat.le_refl _⟩
    refine ⟨by omega, fun v hv => ?_⟩
    rcases List.mem_cons.1 hv with rfl | hv
    · omega
    · exact h2 v hv
theorem fewOf_len {l : List (List Int)} {u : List Int} (hu : u ∈ l) : (fewOf l).length ≤ u.length := by
  cases l with
  | nil => cases hu
  | cons b l =>
    obtain ⟨h1, h2⟩ := fewer_len l b
    rcases List.mem_cons.1 hu with rfl | hu
    · exact h1
    · exact h2 u hu
theorem wrong_ok {c : Claim} (he : err c = 0) : wrongR c = (fewOf ((allT c.causes).map (untrueL c)), 0) := by unfold wrongR; rw [if_neg (by simp [he])]
theorem wrong_none {c : Claim} (he : err c = 0) {t : List Int} (ht : t ∈ agreeL c) : wrongR c = ([], 0) := by
  rw [wrong_ok he]
  have h1 := List.mem_filter.1 ht
  have h2 : untrueL c t = [] := List.isEmpty_iff.1 h1.2
  have := fewOf_len (List.mem_map.2 ⟨t, h1.1, rfl⟩ : untrueL c t ∈ (allT c.causes).map (untrueL c))
  rw [h2] at this
  have hnil : fewOf ((allT c.causes).map (untrueL c)) = [] := List.eq_nil_of_length_eq_zero (by simpa using this)
  rw [hnil]
theorem amount_in {c : Claim} (he : err c = 0) {t : List Int} (ht : t ∈ agreeL c) {i : Nat} (hi : i < c.causes.length) : ∃ lo hi, amountR c i = ((lo, hi), 0) ∧ inB (t.getD i 0) lo hi = true := by
  have hne : agreeL c ≠ [] := List.ne_nil_of_mem ht
  obtain ⟨_, _, h3⟩ := endsOf_at (L := (agreeL c).map fun t => t.getD i 0) (by simpa using hne)
  exact ⟨_, _, amount_ok he hne hi, inB_iff.2 (h3 _ (List.mem_map.2 ⟨t, ht, rfl⟩))⟩
theorem value_in {c : Claim} (he : err c = 0) {t : List Int} (ht : t ∈ agreeL c) {f : Nat} (hf : f < c.feats.length) : ∃ lo hi, valueR c f = ((lo, hi), 0) ∧ inB (len c t f) lo hi = true := by
  have hne : agreeL c ≠ [] := List.ne_nil_of_mem ht
  obtain ⟨_, _, h3⟩ := endsOf_at (L := (agreeL c).map fun t => len c t f) (by simpa using hne)
  exact ⟨_, _, value_ok he hne hf, inB_iff.2 (h3 _ (List.mem_map.2 ⟨t, ht, rfl⟩))⟩

end Go.Proofs.YtkbpmcpmcmnfgaaDoor
