/- Layer 7, plain: when there is a plan, which one it is, and what Some says of plans. Nothing of a program is stepped through here. -/
import Derived.Test.YtpdldmichpmgmaaGreatCKAsks
import Derived.Test.YtpdldmichpmgmaaGreatCKRefM
set_option linter.unusedVariables false
set_option linter.unusedSimpArgs false
set_option linter.all false
namespace Go.Proofs.YtpdldmichpmgmaaGreat

theorem hF8 : 32 + univ8.length * (32 + 1) ≤ seekF := by rw [univ8_len]; unfold seekF; omega
/-- the casts of some moulds alone are enough -/
def CanS (o : List (List Pl)) (set : List Int) : Prop := CanP o (fun a => hasN set a.1) (fun _ => true) [] o.length
theorem test_iff {o : List (List Pl)} {set : List Int} {univ : List Pl} {L : Nat} (hu : ∀ j, (o.getD j []).length ≤ L ∧ ∀ a ∈ o.getD j [], a ∈ univ) (hF : L + univ.length * (L + 1) ≤ seekF) : (!decide (giveR o (fun a => hasN set a.1) (fun _ => true) [] < o.length)) = true ↔ CanS o set := by
  have h1 := can_iff (ok := fun a => hasN set a.1) (is := fun _ => true) (fixed := []) hu hF
  rw [count_all] at h1
  have h2 := give_le o (fun a => hasN set a.1) (fun _ => true) [] o.length
  rw [count_all] at h2
  unfold CanS
  rw [← h1]
  unfold giveR at *
  simp only [Bool.not_eq_true', decide_eq_false_iff_not]
  omega
theorem allL_len (s : Shop) (l : List SeenC) (p : List (Int × Int)) : (allL s l p).length = p.length := by simp [allL]
theorem plan_cases {s : Shop} {l : List SeenC} {p : List (Int × Int)} (h0 : orderE s l p = 0) :
    (∃ A set B, setsL s.moulds.length = A ++ set :: B ∧ (∀ t ∈ A, ¬ CanS (allL s l p) t) ∧ CanS (allL s l p) set ∧ planR s l p = (planK (allL s l p) set p.length, set, 0)) ∨
    ((∀ t ∈ setsL s.moulds.length, ¬ CanS (allL s l p) t) ∧ planR s l p = ([], [], 8)) := by
  obtain ⟨hok, hk, _, _⟩ := order_zero h0
  have hT := fun set => test_iff (set := set) (fun j => all_hu (p := p) hok hk j) hF8
  rw [allL_len] at hT
  unfold planR
  rw [if_neg (by simp [h0])]
  cases hf : (setsL s.moulds.length).find? fun set => !decide (giveR (allL s l p) (fun a => hasN set a.1) (fun _ => true) [] < p.length) with
  | none =>
    right
    rw [List.find?_eq_none] at hf
    exact ⟨fun t ht hc => hf t ht ((hT t).2 hc), rfl⟩
  | some set =>
    left
    obtain ⟨h1, A, B, h2, h3⟩ := List.find?_eq_some_iff_append.1 hf
    refine ⟨A, set, B, h2, fun t ht hc => ?_, (hT set).1 h1, rfl⟩
    have := h3 t ht
    rw [(hT t).2 hc] at this
    cases this
theorem all_in {s : Shop} {l : List SeenC} {p : List (Int × Int)} {j : Nat} {a : Pl} (h : a ∈ (allL s l p).getD j []) : a ∈ placesL s := by
  unfold allL at h
  rw [List.getD_eq_getElem?_getD, List.getElem?_map] at h
  cases hp : p[j]? with
  | none => rw [hp] at h; simp at h
  | some x =>
    rw [hp] at h
    have h' : a ∈ fit7 s l x.1 x.2 := by simpa using h
    exact (List.mem_filter.1 h').1
theorem canS_all {s : Shop} {l : List SeenC} {p : List (Int × Int)} : CanS (allL s l p) (numbersL s.moulds.length) ↔ CanP (allL s l p) (fun _ => true) (fun _ => true) [] (allL s l p).length := by
  unfold CanS
  constructor
  · rintro ⟨M, m1, m2⟩
    exact ⟨M, fun j hj h => ⟨(m1 j hj h).1, rfl, (m1 j hj h).2.2⟩, m2⟩
  · rintro ⟨M, m1, m2⟩
    refine ⟨M, fun j hj h => ⟨(m1 j hj h).1, ?_, (m1 j hj h).2.2⟩, m2⟩
    exact numbers_has (places_mem.1 (all_in (m1 j hj h).1)).1
theorem canS_any {o : List (List Pl)} {set : List Int} (h : CanS o set) : CanP o (fun _ => true) (fun _ => true) [] o.length := by
  obtain ⟨M, m1, m2⟩ := h
  exact ⟨M, fun j hj h => ⟨(m1 j hj h).1, rfl, (m1 j hj h).2.2⟩, m2⟩
theorem numbers_in (n : Nat) : numbersL n ∈ setsL n := sets_mem.2 (List.Sublist.refl _)
/-- is there a plan, as an error -/
theorem plan_ok {s : Shop} {l : List SeenC} {p : List (Int × Int)} (h0 : orderE s l p = 0) (h : CanP (allL s l p) (fun _ => true) (fun _ => true) [] (allL s l p).length) : (planR s l p).2.2 = 0 := by
  rcases plan_cases h0 with ⟨A, set, B, _, _, h1, h2⟩ | ⟨h1, h2⟩
  · rw [h2]
  · exact absurd (canS_all.2 h) (h1 _ (numbers_in _))
theorem plan_none {s : Shop} {l : List SeenC} {p : List (Int × Int)} (h0 : orderE s l p = 0) (h : ¬ CanP (allL s l p) (fun _ => true) (fun _ => true) [] (allL s l p).length) : (planR s l p).2.2 = 8 := by
  rcases plan_cases h0 with ⟨A, set, B, _, _, h1, h2⟩ | ⟨h1, h2⟩
  · exact absurd (canS_any h1) h
  · rw [h2]

/-- some pieces of an order -/
def pickP (p : List (Int × Int)) (set : List Int) : List (Int × Int) := set.map fun i => p.getD i.toNat (0, 0)
theorem order_parts {s : Shop} {l : List SeenC} {p : List (Int × Int)} (h : orderE s l p = 0) : (seen7 s l).2 = 0 ∧ ∀ j, j < p.length → spanE7 p j = 0 := by
  have hz := order_zero h
  rw [orderE_eq] at h
  have h2 : ord0 s l p = 0 := by
    unfold agreeE7 at h
    split at h
    · cases h
    · exact h
  by_cases e : (seen7 s l).2 = 0
  · refine ⟨e, fun j hj => ?_⟩
    rw [ord0_n e hz.2.2] at h2
    rcases firstErr_cases (spanE7 p) p.length with ⟨h4, h5⟩ | ⟨k, _, h4, h5, _⟩
    · exact h5 j hj
    · rw [h4] at h2; exact absurd h2 h5
  · rw [ord0_bad e] at h2; exact absurd h2 e
theorem order_of {s : Shop} {l : List SeenC} {p : List (Int × Int)} (e : (seen7 s l).2 = 0) (hk : known7 s l ≠ []) (h1 : 1 ≤ p.length) (h6 : p.length ≤ 6) (hz : ∀ j, j < p.length → spanE7 p j = 0) : orderE s l p = 0 := by
  rw [orderE_eq, ord0_ok e ⟨h1, h6⟩ hz]
  unfold agreeE7
  rw [if_neg (by simp [hk])]
theorem set_len {n : Nat} {set : List Int} (h : IsSet n set) : set.length ≤ n := by
  have := countC_set h
  have h2 : countK (fun i => hasN set i) n ≤ n := by
    unfold countK
    exact Nat.le_trans (List.length_filter_le _ _) (by simp)
  omega
theorem pick_order {s : Shop} {l : List SeenC} {p : List (Int × Int)} {set : List Int} (h : orderE s l p = 0) (hs : IsSet p.length set) (hne : 1 ≤ set.length) : orderE s l (pickP p set) = 0 := by
  obtain ⟨hok, hk, h1, h6⟩ := order_zero h
  obtain ⟨e, hz⟩ := order_parts h
  have hl : (pickP p set).length = set.length := by simp [pickP]
  have := set_len hs
  refine order_of e hk (by omega) (by omega) fun j hj => ?_
  have hj2 : j < set.length := by omega
  have hb := hs.2 _ (List.getElem_mem hj2)
  have hg : (pickP p set).getD j (0, 0) = p.getD (set[j]).toNat (0, 0) := by
    unfold pickP
    rw [List.getD_eq_getElem?_getD, List.getElem?_map, List.getElem?_eq_getElem hj2]
    rfl
  unfold spanE7
  rw [hg]
  exact hz _ (by omega)
theorem pick_all {s : Shop} {l : List SeenC} {p : List (Int × Int)} {set : List Int} (hs : IsSet p.length set) : allL s l (pickP p set) = chosenL (allL s l p) set := by
  unfold allL pickP chosenL
  rw [List.map_map]
  refine List.map_congr_left fun i hi => ?_
  have hb := hs.2 i hi
  have hlt : i.toNat < p.length := by omega
  dsimp only [Function.comp]
  rw [getD_of (List.getElem?_eq_getElem hlt), List.getD_eq_getElem?_getD, List.getElem?_map, List.getElem?_eq_getElem hlt]
  rfl
theorem some_set {s : Shop} {l : List SeenC} {p : List (Int × Int)} (h : orderE s l p = 0) : someR s l p = (someK (allL s l p) p.length, 0) ∧ IsSet p.length (someK (allL s l p) p.length) := by
  obtain ⟨hok, hk, h1, h6⟩ := order_zero h
  have hi := some_inv (fun j => all_hu (p := p) hok hk j) hF8 p.length (by rw [allL_len]; exact Nat.le_refl _)
  refine ⟨?_, hi.1⟩
  unfold someR
  rw [if_neg (by simp [h])]
theorem some_plan {s : Shop} {l : List SeenC} {p : List (Int × Int)} (h : orderE s l p = 0) (hne : 1 ≤ (someK (allL s l p) p.length).length) : (planR s l (pickP p (someK (allL s l p) p.length))).2.2 = 0 := by
  obtain ⟨hok, hk, h1, h6⟩ := order_zero h
  have hi := some_inv (fun j => all_hu (p := p) hok hk j) hF8 p.length (by rw [allL_len]; exact Nat.le_refl _)
  refine plan_ok (pick_order h hi.1 hne) ?_
  rw [pick_all hi.1]
  exact (chosen_can (by rw [allL_len]; exact hi.1)).2 hi.2.1
theorem more_plan {s : Shop} {l : List SeenC} {p : List (Int × Int)} {J : List Int} (h : orderE s l p = 0) (hJ : IsSet p.length J) (hl : (someK (allL s l p) p.length).length < J.length) : (planR s l (pickP p J)).2.2 = 8 := by
  obtain ⟨hok, hk, h1, h6⟩ := order_zero h
  refine plan_none (pick_order h hJ (by omega)) ?_
  rw [pick_all hJ]
  intro hc
  have hc2 := (chosen_can (by rw [allL_len]; exact hJ)).1 hc
  have := some_most (fun j => all_hu (p := p) hok hk j) hF8 (by rw [allL_len]; exact hJ) hc2
  rw [allL_len] at this
  omega
end Go.Proofs.YtpdldmichpmgmaaGreat
