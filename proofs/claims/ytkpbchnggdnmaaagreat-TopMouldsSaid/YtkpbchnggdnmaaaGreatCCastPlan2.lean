/- A part of the proof that TopMoulds always answers true. -/
import Derived.Test.YtkpbchnggdnmaaaGreatCCastHall3
import Derived.Test.YtkpbchnggdnmaaaGreatCTBits
set_option linter.all false
namespace Go.Proofs.YtkpbchnggdnmaaaGreat
def CanP (o : List (List Pl)) (ok : Pl → Bool) (is : Nat → Bool) (fixed : List Pl) (n : Nat) : Prop :=
 ∃ M : Nat → Pl, (∀ j, j < n → is j = true → M j ∈ o.getD j [] ∧ ok (M j) = true ∧ M j ∉ fixed) ∧ ∀ i j, i < n → j < n → is i = true → is j = true → M i = M j → i = j
section
variable {o : List (List Pl)} {ok : Pl → Bool} {is : Nat → Bool} {fixed : List Pl} {n : Nat}
theorem map_nodup {M : Nat → Pl} {S : List Nat} (hS : S.Nodup) (h : ∀ i ∈ S, ∀ j ∈ S, M i = M j → i = j) : (S.map M).Nodup := by
 unfold List.Nodup
 rw [List.pairwise_map]
 exact List.Pairwise.imp_of_mem (fun {a b} ha hb hne e => hne (h a ha b hb e)) hS
theorem can_lack (h : CanP o ok is fixed n) : ¬ LackP o ok is fixed n := by
 rintro ⟨S, D, s1, s2, s3, s4⟩
 obtain ⟨M, m1, m2⟩ := h
 have hn : (S.map M).Nodup := map_nodup s1 fun i hi j hj e => m2 i j (s2 i hi).1 (s2 j hj).1 (s2 i hi).2 (s2 j hj).2 e
 have := nodup_le (S.map M) D hn (fun a ha => by
  obtain ⟨j, hj, rfl⟩ := List.mem_map.1 ha
  obtain ⟨q1, q2, q3⟩ := m1 j (s2 j hj).1 (s2 j hj).2
  exact s3 j hj _ q1 q2 q3)
 rw [List.length_map] at this
 omega
theorem all_can {s : Nat × List (Pl × Int)} (h : AllHave o ok is fixed n s) : CanP o ok is fixed n := by
 have hex : ∀ j : Nat, ∃ a : Pl, j < n ∧ is j = true → ofL s.2 a = some (j : Int) := fun j => by
  by_cases hj : j < n ∧ is j = true
  ·obtain ⟨a, ha⟩ := (h.owns j).2 hj
   exact ⟨a, fun _ => ha⟩
  exact ⟨(0, 0), fun hh => absurd hh hj⟩
 obtain ⟨M, hM⟩ := Classical.axiomOfChoice hex
 refine ⟨M, fun j hj hi => ?_, fun i j hi hj h1 h2 e => ?_⟩
 ·have hf := hM j ⟨hj, hi⟩
  obtain ⟨g1, g2⟩ := h.given.good _ j hf
  refine ⟨g1, g2, fun hfx => ?_⟩
  have := h.held _ hfx
  rw [hf] at this
  injection this with this
  omega
 have ha := hM i ⟨hi, h1⟩
 have hb := hM j ⟨hj, h2⟩
 rw [e, hb] at ha
 injection ha with ha
 omega
variable {univ : List Pl} {L : Nat}
theorem can_iff (hu : ∀ j, (o.getD j []).length ≤ L ∧ ∀ a ∈ o.getD j [], a ∈ univ) (hF : L + univ.length * (L + 1) ≤ seekF) : giveR o ok is fixed = countK is o.length ↔ CanP o ok is fixed o.length := by
 rw [give_iff hu hF]
 refine ⟨fun h => ?_, can_lack⟩
 rcases give_step (ok := ok) (is := is) (fixed := fixed) hu hF o.length with h1 | ⟨_, h2⟩
 ·exact all_can h1
 exact absurd h2 h
theorem can_congr {is' : Nat → Bool} (hi : ∀ j, j < n → is j = is' j) (h : CanP o ok is fixed n) : CanP o ok is' fixed n := by
 obtain ⟨M, m1, m2⟩ := h
 exact ⟨M, fun j hj h1 => m1 j hj (by rw [hi j hj]; exact h1), fun i j h1 h2 h3 h4 e => m2 i j h1 h2 (by rw [hi i h1]; exact h3) (by rw [hi j h2]; exact h4) e⟩
theorem can_sub {is' : Nat → Bool} (hi : ∀ j, is' j = true → is j = true) (h : CanP o ok is fixed n) : CanP o ok is' fixed n := by
 obtain ⟨M, m1, m2⟩ := h
 exact ⟨M, fun j hj h1 => m1 j hj (hi j h1), fun i j h1 h2 h3 h4 e => m2 i j h1 h2 (hi i h3) (hi j h4) e⟩
end
theorem numbers_has {n i : Nat} (hi : i < n) : hasN (numbersL n) i = true := by
 unfold hasN numbersL
 simp only [decide_eq_true_eq]
 exact List.mem_map.2 ⟨i, List.mem_range.2 hi, rfl⟩
theorem fewest_iff {all : List (List Pl)} {univ : List Pl} {L : Nat} (hu : ∀ j, (all.getD j []).length ≤ L ∧ ∀ a ∈ all.getD j [], a ∈ univ) (hF : L + univ.length * (L + 1) ≤ seekF) : fewestL all = none ↔ CanP all (fun _ => true) (fun _ => true) [] all.length := by
 rw [← lacks_find hu hF, List.find?_eq_none]
 constructor
 ·intro h
  have hm : numbersL all.length ∈ setsL all.length := sets_mem.2 (List.Sublist.refl _)
  have h1 := h _ hm
  have hc := countC_set (sets_set hm)
  have hle := give_le all (fun _ => true) (fun i => hasN (numbersL all.length) i) [] all.length
  simp only [decide_eq_true_eq, Nat.not_lt] at h1
  have hg : giveR all (fun _ => true) (fun i => hasN (numbersL all.length) i) [] = countK (fun i => hasN (numbersL all.length) i) all.length := by
   have : giveR all (fun _ => true) (fun i => hasN (numbersL all.length) i) [] ≤ countK (fun i => hasN (numbersL all.length) i) all.length := hle
   omega
  exact can_congr (fun j hj => numbers_has hj) ((can_iff hu hF).1 hg)
 intro h x hx
 have hc := countC_set (sets_set hx)
 have h2 := (can_iff (ok := fun _ => true) (is := fun i => hasN x i) (fixed := []) hu hF).2 (can_sub (fun _ _ => rfl) h)
 rw [hc] at h2
 simp only [decide_eq_true_eq, Nat.not_lt]
 omega
def onlyL (all : List (List Pl)) (set : List Int) (but : List Pl) : List (List Pl) := all.map fun l => l.filter fun a => hasN set a.1 && !but.contains a
theorem only_get (all : List (List Pl)) (set : List Int) (but : List Pl) (j : Nat) : (onlyL all set but).getD j [] = (all.getD j []).filter fun a => hasN set a.1 && !but.contains a := by
 unfold onlyL
 rw [List.getD_eq_getElem?_getD, List.getElem?_map, List.getD_eq_getElem?_getD]
 cases all[j]? <;> rfl
theorem only_hu {all : List (List Pl)} {univ : List Pl} {L : Nat} (hu : ∀ j, (all.getD j []).length ≤ L ∧ ∀ a ∈ all.getD j [], a ∈ univ) (set : List Int) (but : List Pl) : ∀ j, ((onlyL all set but).getD j []).length ≤ L ∧ ∀ a ∈ (onlyL all set but).getD j [], a ∈ univ := fun j => by
 rw [only_get]
 exact ⟨Nat.le_trans (List.length_filter_le _ _) (hu j).1, fun a ha => (hu j).2 a (List.mem_filter.1 ha).1⟩
theorem drop_get (all : List (List Pl)) (i j : Nat) : (all.drop i).getD j [] = all.getD (i + j) [] := by
 rw [List.getD_eq_getElem?_getD, List.getElem?_drop, List.getD_eq_getElem?_getD]
theorem drop_hu {all : List (List Pl)} {univ : List Pl} {L : Nat} (hu : ∀ j, (all.getD j []).length ≤ L ∧ ∀ a ∈ all.getD j [], a ∈ univ) (i : Nat) : ∀ j, ((all.drop i).getD j []).length ≤ L ∧ ∀ a ∈ (all.drop i).getD j [], a ∈ univ := fun j => by
 rw [drop_get]; exact hu _
theorem can_only {all : List (List Pl)} {set : List Int} {but : List Pl} {i : Nat} (hi : i ≤ all.length) : CanP ((onlyL all set but).drop i) (fun _ => true) (fun _ => true) [] ((onlyL all set but).drop i).length ↔ CanP all (fun a => hasN set a.1) (fun j => decide (i ≤ j)) but all.length := by
 have hlen : ((onlyL all set but).drop i).length = all.length - i := by unfold onlyL; rw [List.length_drop, List.length_map]
 rw [hlen]
 constructor
 ·rintro ⟨M, m1, m2⟩
  refine ⟨fun j => M (j - i), fun j hj h1 => ?_, fun a b ha hb h1 h2 e => ?_⟩
  ·have h1 : i ≤ j := by simpa using h1
   obtain ⟨q1, _, _⟩ := m1 (j - i) (by omega) rfl
   rw [drop_get, only_get, show i + (j - i) = j by omega, List.mem_filter] at q1
   obtain ⟨q1, q2⟩ := q1
   simp only [Bool.and_eq_true, Bool.not_eq_true', List.contains_eq_mem, decide_eq_false_iff_not] at q2
   exact ⟨q1, q2.1, q2.2⟩
  have h1 : i ≤ a := by simpa using h1
  have h2 : i ≤ b := by simpa using h2
  have := m2 (a - i) (b - i) (by omega) (by omega) rfl rfl e
  omega
 rintro ⟨M, m1, m2⟩
 refine ⟨fun j => M (i + j), fun j hj _ => ?_, fun a b ha hb _ _ e => ?_⟩
 ·obtain ⟨q1, q2, q3⟩ := m1 (i + j) (by omega) (by simp)
  rw [drop_get, only_get, List.mem_filter]
  refine ⟨⟨q1, ?_⟩, rfl, fun h => by cases h⟩
  simp only [Bool.and_eq_true, Bool.not_eq_true', List.contains_eq_mem, decide_eq_false_iff_not]
  exact ⟨q2, q3⟩
 have := m2 (i + a) (i + b) (by omega) (by omega) (by simp) (by simp) e
 omega
theorem count_from (i : Nat) : ∀ k, countK (fun j => decide (i < j)) k = k - i - 1 := by
 intro k
 induction k with
 | zero => show 0 = _; omega
 | succ k ih =>
  rw [countK_succ, ih]
  by_cases h : i < k
  ·rw [if_pos (by simpa using h)]; omega
  rw [if_neg (by simpa using h)]; omega
theorem count_all : ∀ k, countK (fun _ => true) k = k := by
 intro k
 induction k with
 | zero => rfl
 | succ k ih => rw [countK_succ, ih, if_pos rfl]
def firstL (all : List (List Pl)) (set : List Int) (k : Nat) : List Pl :=
 (List.range k).foldl (fun out i =>
  match ((onlyL all set out).getD i []).find? fun a => (fewestL ((onlyL all set (out ++ [a])).drop (i + 1))).isNone with
  | some a => out ++ [a]
  | none => out) []
theorem planK_succ (o : List (List Pl)) (set : List Int) (k : Nat) : planK o set (k + 1) = match (o.getD k []).find? fun a => hasN set a.1 && !(planK o set k).contains a && decide (giveR o (fun p => hasN set p.1) (fun j => decide (k < j)) (planK o set k ++ [a]) = o.length - k - 1) with
  | some a => planK o set k ++ [a]
  | none => planK o set k := by
 unfold planK; rw [List.range_succ, List.foldl_append]; rfl
theorem firstL_succ (all : List (List Pl)) (set : List Int) (k : Nat) : firstL all set (k + 1) = match ((onlyL all set (firstL all set k)).getD k []).find? fun a => (fewestL ((onlyL all set (firstL all set k ++ [a])).drop (k + 1))).isNone with
  | some a => firstL all set k ++ [a]
  | none => firstL all set k := by
 unfold firstL; rw [List.range_succ, List.foldl_append]; rfl
theorem find_filter (p q : Pl → Bool) (l : List Pl) : (l.filter p).find? q = l.find? fun a => p a && q a := by
 induction l with
 | nil => rfl
 | cons a l ih =>
  by_cases h : p a = true
  ·rw [List.filter_cons_of_pos h, List.find?_cons, List.find?_cons, ih, h, Bool.true_and]
  rw [List.filter_cons_of_neg h, List.find?_cons, ih]
  have : p a = false := by simpa using h
  rw [this, Bool.false_and]
section
variable {o : List (List Pl)} {univ : List Pl} {L : Nat} {set : List Int}
theorem pick_iff (hu : ∀ j, (o.getD j []).length ≤ L ∧ ∀ a ∈ o.getD j [], a ∈ univ) (hF : L + univ.length * (L + 1) ≤ seekF) (i : Nat) (plan : List Pl) :
  giveR o (fun p => hasN set p.1) (fun j => decide (i < j)) plan = o.length - i - 1 ↔ CanP o (fun p => hasN set p.1) (fun j => decide (i < j)) plan o.length := by
 rw [← can_iff hu hF, count_from]
theorem pick_same (hu : ∀ j, (o.getD j []).length ≤ L ∧ ∀ a ∈ o.getD j [], a ∈ univ) (hF : L + univ.length * (L + 1) ≤ seekF) {i : Nat} (hi : i < o.length) (plan : List Pl) :
  (fewestL ((onlyL o set plan).drop (i + 1))).isNone = decide (giveR o (fun p => hasN set p.1) (fun j => decide (i < j)) plan = o.length - i - 1) := by
 rw [Bool.eq_iff_iff, Option.isNone_iff_eq_none, decide_eq_true_eq, pick_iff hu hF, fewest_iff (drop_hu (only_hu hu set plan) (i + 1)) hF, can_only (by omega)]
 exact ⟨can_congr fun j _ => by rw [decide_eq_decide]; omega, can_congr fun j _ => by rw [decide_eq_decide]; omega⟩
theorem plan_first (hu : ∀ j, (o.getD j []).length ≤ L ∧ ∀ a ∈ o.getD j [], a ∈ univ) (hF : L + univ.length * (L + 1) ≤ seekF) : ∀ k, k ≤ o.length → planK o set k = firstL o set k := by
 intro k
 induction k with
 | zero => intro _; rfl
 | succ k ih =>
  intro hk
  rw [planK_succ, firstL_succ, ih (by omega), only_get, find_filter]
  have : (fun a : Pl => hasN set a.1 && !(firstL o set k).contains a && (fewestL ((onlyL o set (firstL o set k ++ [a])).drop (k + 1))).isNone) = fun a => hasN set a.1 && !(firstL o set k).contains a && decide (giveR o (fun p => hasN set p.1) (fun j => decide (k < j)) (firstL o set k ++ [a]) = o.length - k - 1) := by
   funext a; rw [pick_same hu hF (show k < o.length by omega)]
  rw [this]
theorem plan_can (hu : ∀ j, (o.getD j []).length ≤ L ∧ ∀ a ∈ o.getD j [], a ∈ univ) (hF : L + univ.length * (L + 1) ≤ seekF) (h : CanP o (fun p => hasN set p.1) (fun _ => true) [] o.length) : ∀ k, k ≤ o.length →
  (planK o set k).length = k ∧ CanP o (fun p => hasN set p.1) (fun j => decide (k ≤ j)) (planK o set k) o.length ∧ (planK o set k).Nodup ∧ ∀ i a, (planK o set k)[i]? = some a → a ∈ o.getD i [] ∧ hasN set a.1 = true := by
 intro k
 induction k with
 | zero => intro _; exact ⟨rfl, can_congr (fun j _ => by simp) h, List.nodup_nil, fun i a hi => by simp [planK] at hi⟩
 | succ k ih =>
  intro hk
  obtain ⟨h1, ⟨M, m1, m2⟩, h3, h4⟩ := ih (by omega)
  have hstep : planK o set (k + 1) = match (o.getD k []).find? fun a => hasN set a.1 && !(planK o set k).contains a && decide (giveR o (fun p => hasN set p.1) (fun j => decide (k < j)) (planK o set k ++ [a]) = o.length - k - 1) with
    | some a => planK o set k ++ [a]
    | none => planK o set k := planK_succ o set k
  obtain ⟨q1, q2, q3⟩ := m1 k (by omega) (by simp)
  have hM : CanP o (fun p => hasN set p.1) (fun j => decide (k < j)) (planK o set k ++ [M k]) o.length := by
   refine ⟨M, fun j hj hd => ?_, fun i j hi hj d1 d2 e => m2 i j hi hj (by simp at d1 ⊢; omega) (by simp at d2 ⊢; omega) e⟩
   have hd : k < j := by simpa using hd
   obtain ⟨w1, w2, w3⟩ := m1 j hj (by simp; omega)
   refine ⟨w1, w2, fun hm => ?_⟩
   rcases List.mem_append.1 hm with hm | hm
   ·exact w3 hm
   have := m2 j k hj (by omega) (by simp; omega) (by simp) (List.mem_singleton.1 hm)
   omega
  cases hf : (o.getD k []).find? fun a => hasN set a.1 && !(planK o set k).contains a && decide (giveR o (fun p => hasN set p.1) (fun j => decide (k < j)) (planK o set k ++ [a]) = o.length - k - 1) with
  | none =>
   rw [List.find?_eq_none] at hf
   have := hf (M k) q1
   rw [(pick_iff hu hF k _).2 hM] at this
   have q2' : hasN set (M k).1 = true := q2
   simp [q2', q3] at this
  | some a =>
   rw [hf] at hstep
   dsimp only at hstep
   have hp := List.find?_some hf
   have hm := List.mem_of_find?_eq_some hf
   simp only [Bool.and_eq_true, Bool.not_eq_true', List.contains_eq_mem, decide_eq_false_iff_not, decide_eq_true_eq] at hp
   obtain ⟨⟨p1, p2⟩, p3⟩ := hp
   rw [hstep]
   refine ⟨by rw [List.length_append, h1]; rfl, can_congr (fun j _ => by rw [decide_eq_decide]; omega) ((pick_iff hu hF k _).1 p3), ?_, fun i b hi => ?_⟩
   ·rw [List.nodup_append]
    refine ⟨h3, by simp, fun x hx y hy e => ?_⟩
    rw [List.mem_singleton] at hy
    rw [e, hy] at hx
    exact p2 hx
   by_cases hik : i < k
   ·rw [List.getElem?_append_left (by omega)] at hi
    exact h4 i b hi
   rw [List.getElem?_append_right (by omega), h1] at hi
   have : i = k := by
    have := (List.getElem?_eq_some_iff.1 hi).1
    simp at this; omega
   subst this
   rw [Nat.sub_self] at hi
   simp at hi
   subst hi
   exact ⟨hm, p1⟩
end
section
variable {o : List (List Pl)} {univ : List Pl} {L : Nat}
theorem some_succ (o : List (List Pl)) (k : Nat) : someK o (k + 1) = if giveR o (fun _ => true) (fun j => hasN (someK o k) j || decide (j = k)) [] = (someK o k).length + 1 then someK o k ++ [(k : Int)] else someK o k := by
 unfold someK; rw [List.range_succ, List.foldl_append]; rfl
theorem has_snoc (G : List Int) (k j : Nat) : hasN (G ++ [(k : Int)]) j = (hasN G j || decide (j = k)) := by
 unfold hasN
 rw [Bool.eq_iff_iff]
 simp only [decide_eq_true_eq, Bool.or_eq_true, List.mem_append, List.mem_singleton]
 constructor
 ·rintro (h | h)
  ·exact .inl h
  exact .inr (by omega)
 rintro (h | h)
 ·exact .inl h
 exact .inr (by omega)
end
end Go.Proofs.YtkpbchnggdnmaaaGreat
