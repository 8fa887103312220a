/- Layer 12, plain: claims whose measures are made of a truth. -/
import Derived.Test.YtkbpmcpmcmnfgaaDoorCFewer
import Derived.Test.YtkbpmcpmcmnfgaaDoorCHelp2
set_option linter.unusedVariables false
set_option linter.unusedSimpArgs false
set_option linter.all false
namespace Go.Proofs.YtkbpmcpmcmnfgaaDoor

theorem exts_idx : ∀ (l : List Cause) (f : Nat → Cause → Int), (∀ i a, a ∈ l → f i a ∈ vals a) → l.mapIdx f ∈ exts l := by
  intro l
  induction l with
  | nil => intro f _; simp [exts]
  | cons x l ih =>
    intro f h
    rw [List.mapIdx_cons]
    exact exts_cons.2 ⟨_, h 0 x List.mem_cons_self, _, ih (fun i => f (i + 1)) (fun i a ha => h (i + 1) a (List.mem_cons_of_mem _ ha)), rfl⟩
theorem truth_exts {c : Claim} (h : OkC c) (x : List Int) : truthR c x ∈ exts c.causes := by
  refine exts_idx _ _ (fun i a ha => ?_)
  obtain ⟨k, hk⟩ := List.getElem?_of_mem ha
  obtain ⟨_, _, h1, h2, h3, h4⟩ := h.cause hk
  unfold truthAt vals
  split
  · exact List.mem_cons_self
  · have h5 : 0 ≤ (turnR x i / 2) % (a.hi - a.lo + 1) := Int.emod_nonneg _ (by omega)
    have h6 : (turnR x i / 2) % (a.hi - a.lo + 1) < a.hi - a.lo + 1 := Int.emod_lt_of_pos _ (by omega)
    refine List.mem_cons_of_mem _ (List.mem_map.2 ⟨((turnR x i / 2) % (a.hi - a.lo + 1)).toNat, List.mem_range.2 (by omega), by omega⟩)
theorem truth_ok {c : Claim} (h : OkC c) (x : List Int) : TruthOk c (truthR c x) := (allT_ok h (by rw [allT_exts]; exact truth_exts h x)).2

theorem lenUpto_told (c : Claim) (t off : List Int) (x : Int) (u : List Int) (f : Nat) : ∀ k, lenUpto (toldC c t off x) u f k = lenUpto c u f k := by
  intro k
  induction k with
  | zero => rfl
  | succ k ih => rw [lenUpto, lenUpto, ih]; rfl
theorem len_told (c : Claim) (t off : List Int) (x : Int) (u : List Int) (f : Nat) : len (toldC c t off x) u f = len c u f := lenUpto_told c t off x u f _
theorem told_mem {c : Claim} {t off : List Int} {x : Int} {y : Meas} (h : y ∈ (toldC c t off x).meas) : ∃ i y0, c.meas[i]? = some y0 ∧ y = ⟨y0.feature, shownAt c t off x i y0⟩ ∧ inB y.shown 0 200000 = true := by
  obtain ⟨i, hi, rfl⟩ := List.mem_map.1 h
  obtain ⟨h1, h2⟩ := List.mem_filter.1 hi
  have hl := List.mem_range.1 h1
  have hx := List.getElem?_eq_getElem hl
  rw [getD_of hx] at h2 ⊢
  exact ⟨i, _, hx, rfl, h2⟩
theorem told_len (c : Claim) (t off : List Int) (x : Int) : (toldC c t off x).meas.length ≤ c.meas.length := by
  unfold toldC toldK
  simp only
  rw [List.length_map]
  exact Nat.le_trans (List.length_filter_le _ _) (by simp)
theorem told_err {c : Claim} (h : err c = 0) (t off : List Int) (x : Int) : err (toldC c t off x) = 0 := by
  obtain ⟨h1, h2, h3, h4, h5, h6⟩ := check_zero h
  have hok := okC_of h
  unfold err
  rw [check_ok (c := toldC c t off x) h1 h2 h3 h4 (by have := told_len c t off x; omega) (fun j hj => ?_)]
  have hx := List.getElem?_eq_getElem hj
  rw [measE_get hx]
  obtain ⟨i, y0, hi, he, hs⟩ := told_mem (List.getElem_mem hj)
  obtain ⟨a1, a2, _, _⟩ := hok.meas hi
  rw [he] at hs ⊢
  simp only at hs ⊢
  have hin : inB y0.feature 0 ((c.feats.length : Int) - 1) = true := inB_iff.2 (by omega)
  rw [show (toldC c t off x).feats = c.feats from rfl, hin, hs]
  rfl
theorem shown_near {c : Claim} (h : OkC c) (t off : List Int) {i : Nat} {y : Meas} (hy : c.meas[i]? = some y) {x : Int} (hx : ¬ x / 2 ^ i % 2 = 1) : len c t y.feature.toNat - (c.feats.getD y.feature.toNat dFeat).err ≤ shownAt c t off x i y ∧ shownAt c t off x i y ≤ len c t y.feature.toNat + (c.feats.getD y.feature.toNat dFeat).err := by
  obtain ⟨a1, a2, _, _⟩ := h.meas hy
  have hf := h.feat (List.getElem?_eq_getElem (show y.feature.toNat < c.feats.length by omega))
  unfold shownAt
  rw [if_neg hx, getD_of (List.getElem?_eq_getElem (show y.feature.toNat < c.feats.length by omega))]
  have h5 := Int.emod_nonneg (turnR off i) (b := 2 * (c.feats[y.feature.toNat]).err + 1) (by omega)
  have h6 := Int.emod_lt_of_pos (turnR off i) (b := 2 * (c.feats[y.feature.toNat]).err + 1) (by omega)
  omega
theorem zero_bits (i : Nat) : ¬ (0 : Int) / 2 ^ i % 2 = 1 := by rw [Int.zero_ediv]; decide
theorem told_agree {c : Claim} (h : OkC c) {t : List Int} (ht : t ∈ exts c.causes) (off : List Int) : t ∈ agreeL (toldC c t off 0) := by
  refine agree_mem.2 ⟨ht, fun y hy => ?_⟩
  obtain ⟨i, y0, hi, rfl, _⟩ := told_mem hy
  have := shown_near h t off hi (zero_bits i)
  unfold measOk
  rw [len_told]
  exact inB_iff.2 this

theorem lessL_len {a b : List Int} (h : lessL a b = true) : a.length ≤ b.length := by
  unfold lessL at h
  split at h
  · have := of_decide_eq_true h; omega
  · rename_i hn; omega
theorem fewer_len : ∀ (l : List (List Int)) (b : List Int), (l.foldl fewer b).length ≤ b.length ∧ ∀ u ∈ l, (l.foldl fewer b).length ≤ u.length := by
  intro l
  induction l with
  | nil => intro b; simp
  | cons u l ih =>
    intro b
    rw [List.foldl_cons]
    obtain ⟨h1, h2⟩ := ih (fewer b u)
    have hb : (fewer b u).length ≤ b.length ∧ (fewer b u).length ≤ u.length := by
      unfold fewer
      cases hl : lessL u b
      · refine ⟨Nat.le_refl _, Nat.le_of_not_lt fun hlt => ?_⟩
        unfold lessL at hl
        rw [if_pos (by simp only [Bool.false_eq_true, if_false] at hlt; omega)] at hl
        simp only [Bool.false_eq_true, if_false] at hlt
        exact absurd hlt (of_decide_eq_false hl)
      · simp only [if_true]
        exact ⟨lessL_len hl, Nat.le_refl _⟩
    refine ⟨by omega, fun v hv => ?_⟩
    rcases List.mem_cons.1 hv with rfl | hv
    · omega
    · exact h2 v hv
theorem fewOf_len {l : List (List Int)} {u : List Int} (hu : u ∈ l) : (fewOf l).length ≤ u.length := by
  cases l with
  | nil => cases hu
  | cons b l =>
    obtain ⟨h1, h2⟩ := fewer_len l b
    rcases List.mem_cons.1 hu with rfl | hu
    · exact h1
    · exact h2 u hu
theorem wrong_ok {c : Claim} (he : err c = 0) : wrongR c = (fewOf ((allT c.causes).map (untrueL c)), 0) := by unfold wrongR; rw [if_neg (by simp [he])]
theorem wrong_none {c : Claim} (he : err c = 0) {t : List Int} (ht : t ∈ agreeL c) : wrongR c = ([], 0) := by
  rw [wrong_ok he]
  have h1 := List.mem_filter.1 ht
  have h2 : untrueL c t = [] := List.isEmpty_iff.1 h1.2
  have := fewOf_len (List.mem_map.2 ⟨t, h1.1, rfl⟩ : untrueL c t ∈ (allT c.causes).map (untrueL c))
  rw [h2] at this
  have hnil : fewOf ((allT c.causes).map (untrueL c)) = [] := List.eq_nil_of_length_eq_zero (by simpa using this)
  rw [hnil]
theorem amount_in {c : Claim} (he : err c = 0) {t : List Int} (ht : t ∈ agreeL c) {i : Nat} (hi : i < c.causes.length) : ∃ lo hi, amountR c i = ((lo, hi), 0) ∧ inB (t.getD i 0) lo hi = true := by
  have hne : agreeL c ≠ [] := List.ne_nil_of_mem ht
  obtain ⟨_, _, h3⟩ := endsOf_at (L := (agreeL c).map fun t => t.getD i 0) (by simpa using hne)
  exact ⟨_, _, amount_ok he hne hi, inB_iff.2 (h3 _ (List.mem_map.2 ⟨t, ht, rfl⟩))⟩
theorem value_in {c : Claim} (he : err c = 0) {t : List Int} (ht : t ∈ agreeL c) {f : Nat} (hf : f < c.feats.length) : ∃ lo hi, valueR c f = ((lo, hi), 0) ∧ inB (len c t f) lo hi = true := by
  have hne : agreeL c ≠ [] := List.ne_nil_of_mem ht
  obtain ⟨_, _, h3⟩ := endsOf_at (L := (agreeL c).map fun t => len c t f) (by simpa using hne)
  exact ⟨_, _, value_ok he hne hf, inB_iff.2 (h3 _ (List.mem_map.2 ⟨t, ht, rfl⟩))⟩

end Go.Proofs.YtkbpmcpmcmnfgaaDoor

namespace Go.Proofs.YtkbpmcpmcmnfgaaDoor

/-- some of the first k measures -/
def pickM (c : Claim) (p : Nat → Bool) (k : Nat) : List Meas := ((List.range k).filter p).map fun i => c.meas.getD i dMeas
def pickC (c : Claim) (p : Nat → Bool) : Claim := { c with meas := pickM c p c.meas.length }
theorem pickM_succ {c : Claim} {p : Nat → Bool} {k : Nat} {y : Meas} (h : c.meas[k]? = some y) : pickM c p (k + 1) = pickM c p k ++ if p k then [y] else [] := by
  unfold pickM
  rw [List.range_succ, List.filter_append, List.map_append]
  congr 1
  by_cases hk : p k = true
  · simp [hk, h]
  · simp [hk]
theorem pickM_len (c : Claim) (p : Nat → Bool) (k : Nat) : (pickM c p k).length ≤ k := by
  unfold pickM
  rw [List.length_map]
  exact Nat.le_trans (List.length_filter_le _ _) (by simp)
theorem lenUpto_pick (c : Claim) (p : Nat → Bool) (t : List Int) (f : Nat) : ∀ k, lenUpto (pickC c p) t f k = lenUpto c t f k := by
  intro k
  induction k with
  | zero => rfl
  | succ k ih => rw [lenUpto, lenUpto, ih]; rfl
theorem measOk_pick (c : Claim) (p : Nat → Bool) (t : List Int) (y : Meas) : measOk (pickC c p) t y = measOk c t y := by
  have h : ∀ f, len (pickC c p) t f = len c t f := fun f => lenUpto_pick c p t f _
  exact measOk_congr (c := c) (d := pickC c p) rfl h y
theorem pick_mem {c : Claim} {p : Nat → Bool} {y : Meas} (h : y ∈ (pickC c p).meas) : ∃ i, i < c.meas.length ∧ p i = true ∧ c.meas[i]? = some y := by
  obtain ⟨i, hi, rfl⟩ := List.mem_map.1 h
  obtain ⟨h1, h2⟩ := List.mem_filter.1 hi
  have hl := List.mem_range.1 h1
  have hx := List.getElem?_eq_getElem hl
  exact ⟨i, hl, h2, by rw [getD_of hx]; exact hx⟩
theorem pick_err {c : Claim} (h : err c = 0) (p : Nat → Bool) : err (pickC c p) = 0 := by
  obtain ⟨h1, h2, h3, h4, h5, h6⟩ := check_zero h
  unfold err
  rw [check_ok (c := pickC c p) h1 h2 h3 h4 (by have := pickM_len c p c.meas.length; show ¬ 8 < (pickM c p c.meas.length).length; omega) (fun j hj => ?_)]
  have hx := List.getElem?_eq_getElem hj
  rw [measE_get hx]
  obtain ⟨i, hi, _, he⟩ := pick_mem (List.getElem_mem hj)
  have := h6 i hi
  rw [measE_get he] at this
  exact this

theorem mem_untrue {c : Claim} {t : List Int} {i : Nat} {y : Meas} (hy : c.meas[i]? = some y) : (i : Int) ∈ untrueL c t ↔ measOk c t y = false := by
  have hl : i < c.meas.length := by obtain ⟨h, _⟩ := List.getElem?_eq_some_iff.1 hy; exact h
  unfold untrueL
  rw [List.mem_map]
  constructor
  · rintro ⟨k, hk, he⟩
    obtain rfl : k = i := by omega
    have := (List.mem_filter.1 hk).2
    rw [getD_of hy] at this
    simpa using this
  · intro h
    exact ⟨i, List.mem_filter.2 ⟨List.mem_range.2 hl, by rw [getD_of hy, h]; rfl⟩, rfl⟩
theorem asc_untrue (c : Claim) (t : List Int) : ascL (untrueL c t) c.meas.length = true := asc_filter _ _
theorem fewer_mem : ∀ (l : List (List Int)) (b : List Int), l.foldl fewer b ∈ b :: l := by
  intro l
  induction l with
  | nil => intro b; simp
  | cons u l ih =>
    intro b
    rw [List.foldl_cons]
    have hb : fewer b u = b ∨ fewer b u = u := by unfold fewer; split <;> simp
    rcases hb with e | e
    · rw [e]
      rcases List.mem_cons.1 (ih b) with h | h
      · rw [h]; exact List.mem_cons_self
      · exact List.mem_cons_of_mem _ (List.mem_cons_of_mem _ h)
    · rw [e]; exact List.mem_cons_of_mem _ (ih u)
theorem wrong_at {c : Claim} (h : OkC c) : ∃ t ∈ exts c.causes, fewOf ((allT c.causes).map (untrueL c)) = untrueL c t := by
  have hne := (allT_len h).2
  cases hL : (allT c.causes).map (untrueL c) with
  | nil => rw [List.map_eq_nil_iff] at hL; rw [hL] at hne; simp at hne
  | cons b l =>
    have := fewer_mem l b
    rw [← hL] at this
    obtain ⟨t, ht, e⟩ := List.mem_map.1 this
    exact ⟨t, by rw [← allT_exts]; exact ht, e.symm⟩
/-- a number of bits -/
def bitB (x : Int) (i : Nat) : Bool := decide (x / 2 ^ i % 2 = 1)
def manyK (x : Int) (k : Nat) : Nat := (List.range k).countP (bitB x)
theorem manyK_succ (x : Int) (k : Nat) : manyK x (k + 1) = manyK x k + if bitB x k then 1 else 0 := by
  unfold manyK
  rw [List.range_succ, List.countP_append, List.countP_singleton]
theorem manyK_le (x : Int) (k : Nat) : manyK x k ≤ k := by
  unfold manyK
  exact Nat.le_trans List.countP_le_length (by simp)
theorem untrue_count {c : Claim} {t : List Int} {q : Nat → Bool} (h : ∀ i y, c.meas[i]? = some y → measOk c t y = false → q i = true) : (untrueL c t).length ≤ (List.range c.meas.length).countP q := by
  unfold untrueL
  rw [List.length_map, ← List.countP_eq_length_filter]
  refine List.countP_mono_left fun i hi hm => ?_
  have hx := List.getElem?_eq_getElem (List.mem_range.1 hi)
  rw [getD_of hx] at hm
  exact h i _ hx (by simpa using hm)
section
variable {c : Claim}
/-- without the measures of Wrong some truth agrees -/
theorem few_agree (h : OkC c) : agreeL (pickC c fun i => !decide ((i : Int) ∈ fewOf ((allT c.causes).map (untrueL c)))) ≠ [] := by
  obtain ⟨t, ht, e⟩ := wrong_at h
  rw [e]
  refine List.ne_nil_of_mem (a := t) (agree_mem.2 ⟨ht, fun y hy => ?_⟩)
  obtain ⟨i, _, hp, hi⟩ := pick_mem hy
  rw [measOk_pick]
  cases hm : measOk c t y
  · have := (mem_untrue hi).2 hm
    simp [this] at hp
  · rfl
/-- without any fewer none does -/
theorem rest_agree (x : Int) (ha : agreeL (pickC c fun i => !bitB x i) ≠ []) : (fewOf ((allT c.causes).map (untrueL c))).length ≤ manyK x c.meas.length := by
  obtain ⟨t, ht⟩ := List.exists_mem_of_ne_nil _ ha
  obtain ⟨h1, h2⟩ := agree_mem.1 ht
  have h3 := fewOf_len (List.mem_map.2 ⟨t, (by rw [allT_exts]; exact h1), rfl⟩ : untrueL c t ∈ (allT c.causes).map (untrueL c))
  refine Nat.le_trans h3 (untrue_count fun i y hy hm => ?_)
  cases hb : bitB x i
  · have hin : y ∈ (pickC c fun i => !bitB x i).meas := by
      have hl : i < c.meas.length := by obtain ⟨h, _⟩ := List.getElem?_eq_some_iff.1 hy; exact h
      exact List.mem_map.2 ⟨i, List.mem_filter.2 ⟨List.mem_range.2 hl, by rw [hb]; rfl⟩, getD_of hy⟩
    have := h2 y hin
    rw [measOk_pick, hm] at this
    cases this
  · rfl
theorem range_getD {α : Type} (l : List α) (d : α) : (List.range l.length).map (fun i => l.getD i d) = l := by
  apply List.ext_getElem?
  intro i
  rw [List.getElem?_map]
  by_cases hi : i < l.length
  · rw [List.getElem?_range hi, List.getElem?_eq_getElem hi]
    simp [hi]
  · rw [List.getElem?_eq_none (by simp; omega), List.getElem?_eq_none (by omega)]
    rfl
/-- if some measures are wrong it names no more than these -/
theorem told_wrong (h : OkC c) {t : List Int} (ht : t ∈ exts c.causes) (off : List Int) (x : Int) : (fewOf ((allT (toldC c t off x).causes).map (untrueL (toldC c t off x)))).length ≤ manyK x c.meas.length := by
  have h3 := fewOf_len (List.mem_map.2 ⟨t, (by rw [allT_exts]; exact ht), rfl⟩ : untrueL (toldC c t off x) t ∈ (allT (toldC c t off x).causes).map (untrueL (toldC c t off x)))
  refine Nat.le_trans h3 ?_
  have h4 : (untrueL (toldC c t off x) t).length = (toldC c t off x).meas.countP fun y => !measOk (toldC c t off x) t y := by
    unfold untrueL
    rw [List.length_map, ← List.countP_eq_length_filter]
    conv => rhs; rw [← range_getD (toldC c t off x).meas dMeas, List.countP_map]
    rfl
  rw [h4]
  show (toldK c t off x c.meas.length).countP _ ≤ _
  unfold toldK manyK
  rw [List.countP_map, List.countP_filter]
  refine List.countP_mono_left fun i hi hm => ?_
  simp only [Function.comp_apply, Bool.and_eq_true] at hm
  have hy := List.getElem?_eq_getElem (List.mem_range.1 hi)
  rw [getD_of hy] at hm
  cases hb : bitB x i
  · have := shown_near h t off hy (x := x) (of_decide_eq_false hb)
    have hok : measOk (toldC c t off x) t ⟨(c.meas[i]'(List.mem_range.1 hi)).feature, shownAt c t off x i (c.meas[i]'(List.mem_range.1 hi))⟩ = true := by
      unfold measOk
      rw [len_told]
      exact inB_iff.2 this
    rw [hok] at hm
    cases hm.1
  · rfl
end

end Go.Proofs.YtkbpmcpmcmnfgaaDoor

namespace Go.Proofs.YtkbpmcpmcmnfgaaDoor

section
variable {c : Claim} {y : Meas}
theorem lenUpto_with (t : List Int) (f : Nat) : ∀ k, lenUpto (withC c y) t f k = lenUpto c t f k := by
  intro k
  induction k with
  | zero => rfl
  | succ k ih => rw [lenUpto, lenUpto, ih]; rfl
theorem len_with (t : List Int) (f : Nat) : len (withC c y) t f = len c t f := lenUpto_with t f _
theorem measOk_with (t : List Int) (x : Meas) : measOk (withC c y) t x = measOk c t x := measOk_congr (c := c) (d := withC c y) rfl (fun f => len_with t f) x
theorem agree_with {t : List Int} : t ∈ agreeL (withC c y) ↔ t ∈ agreeL c ∧ measOk c t y = true := by
  rw [agree_mem, agree_mem]
  have hm : ∀ x, x ∈ (withC c y).meas ↔ x ∈ c.meas ∨ x = y := fun x => by show x ∈ c.meas ++ [y] ↔ _; simp
  constructor
  · rintro ⟨h1, h2⟩
    exact ⟨⟨h1, fun x hx => by rw [← measOk_with (y := y)]; exact h2 x ((hm x).2 (.inl hx))⟩, by rw [← measOk_with (y := y)]; exact h2 y ((hm y).2 (.inr rfl))⟩
  · rintro ⟨⟨h1, h2⟩, h3⟩
    refine ⟨h1, fun x hx => ?_⟩
    rw [measOk_with]
    rcases (hm x).1 hx with h | rfl
    · exact h2 x h
    · exact h3
theorem err_with (h : err (withC c y) = 0) : err c = 0 := by
  obtain ⟨h1, h2, h3, h4, h5, h6⟩ := check_zero h
  have hl : (withC c y).meas.length = c.meas.length + 1 := by show (c.meas ++ [y]).length = _; simp
  unfold err
  rw [check_ok (c := c) h1 h2 h3 h4 (by omega) (fun j hj => ?_)]
  have hx := List.getElem?_eq_getElem hj
  have h7 := h6 j (by omega)
  have hx2 : (withC c y).meas[j]? = some c.meas[j] := by show (c.meas ++ [y])[j]? = _; rw [List.getElem?_append_left hj]; exact hx
  rw [measE_get hx2] at h7
  rw [measE_get hx]
  exact h7
theorem must_with : partL (mustL c) (mustL (withC c y)) = true := by
  rw [partL_iff]
  intro x hx
  obtain ⟨i, rfl⟩ := must_nat hx
  obtain ⟨h1, h2⟩ := mem_must.1 hx
  exact mem_must.2 ⟨h1, fun t ht => h2 t (agree_with.1 ht).1⟩
theorem may_nat {d : Claim} {x : Int} (h : x ∈ mayL d) : ∃ i : Nat, x = i := by
  obtain ⟨k, _, rfl⟩ := List.mem_map.1 h
  exact ⟨k, rfl⟩
theorem may_with : partL (mayL (withC c y)) (mayL c) = true := by
  rw [partL_iff]
  intro x hx
  obtain ⟨i, rfl⟩ := may_nat hx
  obtain ⟨h1, t, ht, h2⟩ := mem_may.1 hx
  exact mem_may.2 ⟨h1, t, (agree_with.1 ht).1, h2⟩
theorem ends_sub {L M : List Int} (hL : L ≠ []) (h : ∀ x ∈ L, x ∈ M) : (endsOf M).1 ≤ (endsOf L).1 ∧ (endsOf L).2 ≤ (endsOf M).2 := by
  obtain ⟨h1, h2, _⟩ := endsOf_at hL
  have hM : M ≠ [] := List.ne_nil_of_mem (h _ h1)
  obtain ⟨_, _, h3⟩ := endsOf_at hM
  exact ⟨(h3 _ (h _ h1)).1, (h3 _ (h _ h2)).2⟩
theorem value_with (h : err (withC c y) = 0) (ha : agreeL (withC c y) ≠ []) {f : Nat} (hf : f < c.feats.length) : ∃ a b a' b', valueR c f = ((a, b), 0) ∧ valueR (withC c y) f = ((a', b'), 0) ∧ a ≤ a' ∧ b' ≤ b := by
  have hc : agreeL c ≠ [] := by
    obtain ⟨t, ht⟩ := List.exists_mem_of_ne_nil _ ha
    exact List.ne_nil_of_mem (agree_with.1 ht).1
  have h1 := value_ok (err_with h) hc hf
  have h2 := value_ok h ha (f := f) hf
  have h3 := ends_sub (L := (agreeL (withC c y)).map fun t => len (withC c y) t f) (M := (agreeL c).map fun t => len c t f) (by simpa using ha) (fun x hx => by
    obtain ⟨t, ht, rfl⟩ := List.mem_map.1 hx
    exact List.mem_map.2 ⟨t, (agree_with.1 ht).1, (len_with t f).symm⟩)
  exact ⟨_, _, _, _, h1, h2, h3.1, h3.2⟩
theorem amount_with (h : err (withC c y) = 0) (ha : agreeL (withC c y) ≠ []) {i : Nat} (hi : i < c.causes.length) : ∃ a b a' b', amountR c i = ((a, b), 0) ∧ amountR (withC c y) i = ((a', b'), 0) ∧ a ≤ a' ∧ b' ≤ b := by
  have hc : agreeL c ≠ [] := by
    obtain ⟨t, ht⟩ := List.exists_mem_of_ne_nil _ ha
    exact List.ne_nil_of_mem (agree_with.1 ht).1
  have h1 := amount_ok (err_with h) hc hi
  have h2 := amount_ok h ha (i := i) hi
  have h3 := ends_sub (L := (agreeL (withC c y)).map fun t => t.getD i 0) (M := (agreeL c).map fun t => t.getD i 0) (by simpa using ha) (fun x hx => by
    obtain ⟨t, ht, rfl⟩ := List.mem_map.1 hx
    exact List.mem_map.2 ⟨t, (agree_with.1 ht).1, rfl⟩)
  exact ⟨_, _, _, _, h1, h2, h3.1, h3.2⟩
theorem agree_some (ha : agreeL (withC c y) ≠ []) : agreeL c ≠ [] := by
  obtain ⟨t, ht⟩ := List.exists_mem_of_ne_nil _ ha
  exact List.ne_nil_of_mem (agree_with.1 ht).1
/-- the errors of Must -/
theorem err8_two (h : err c = 0) : (mustR c).2.2 = 0 ∨ (mustR c).2.2 = 8 := by
  by_cases ha : agreeL c = []
  · right; rw [must_none h ha]
  · left; rw [must_ok h ha]
end

end Go.Proofs.YtkbpmcpmcmnfgaaDoor
