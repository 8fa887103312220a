/- Layer 7, plain: plans of casts are the same in the program's way and in the document's (Plan). Nothing of a program stands here. -/
import Derived.Test.YtpdldmichpmgmaaGreatCCastHalls
import Derived.Test.YtpdldmichpmgmaaGreatCTSorts
set_option linter.unusedVariables false
set_option linter.unusedSimpArgs false
set_option linter.all false
namespace Go.Proofs.YtpdldmichpmgmaaGreat

/-- each of some pieces can be given a cast of its own -/
def CanP (o : List (List Pl)) (ok : Pl → Bool) (is : Nat → Bool) (fixed : List Pl) (n : Nat) : Prop :=
  ∃ M : Nat → Pl, (∀ j, j < n → is j = true → M j ∈ o.getD j [] ∧ ok (M j) = true ∧ M j ∉ fixed) ∧ ∀ i j, i < n → j < n → is i = true → is j = true → M i = M j → i = j
section
variable {o : List (List Pl)} {ok : Pl → Bool} {is : Nat → Bool} {fixed : List Pl} {n : Nat}
theorem map_nodup {M : Nat → Pl} {S : List Nat} (hS : S.Nodup) (h : ∀ i ∈ S, ∀ j ∈ S, M i = M j → i = j) : (S.map M).Nodup := by
  unfold List.Nodup
  rw [List.pairwise_map]
  exact List.Pairwise.imp_of_mem (fun {a b} ha hb hne e => hne (h a ha b hb e)) hS
theorem can_lack (h : CanP o ok is fixed n) : ¬ LackP o ok is fixed n := by
  rintro ⟨S, D, s1, s2, s3, s4⟩
  obtain ⟨M, m1, m2⟩ := h
  have hn : (S.map M).Nodup := map_nodup s1 fun i hi j hj e => m2 i j (s2 i hi).1 (s2 j hj).1 (s2 i hi).2 (s2 j hj).2 e
  have := nodup_le (S.map M) D hn (fun a ha => by
    obtain ⟨j, hj, rfl⟩ := List.mem_map.1 ha
    obtain ⟨q1, q2, q3⟩ := m1 j (s2 j hj).1 (s2 j hj).2
    exact s3 j hj _ q1 q2 q3)
  rw [List.length_map] at this
  omega
theorem all_can {s : Nat × List (Pl × Int)} (h : AllHave o ok is fixed n s) : CanP o ok is fixed n := by
  have hex : ∀ j : Nat, ∃ a : Pl, j < n ∧ is j = true → ofL s.2 a = some (j : Int) := fun j => by
    by_cases hj : j < n ∧ is j = true
    · obtain ⟨a, ha⟩ := (h.owns j).2 hj
      exact ⟨a, fun _ => ha⟩
    · exact ⟨(0, 0), fun hh => absurd hh hj⟩
  obtain ⟨M, hM⟩ := Classical.axiomOfChoice hex
  refine ⟨M, fun j hj hi => ?_, fun i j hi hj h1 h2 e => ?_⟩
  · have hf := hM j ⟨hj, hi⟩
    obtain ⟨g1, g2⟩ := h.given.good _ j hf
    refine ⟨g1, g2, fun hfx => ?_⟩
    have := h.held _ hfx
    rw [hf] at this
    injection this with this
    omega
  · have ha := hM i ⟨hi, h1⟩
    have hb := hM j ⟨hj, h2⟩
    rw [e, hb] at ha
    injection ha with ha
    omega
variable {univ : List Pl} {L : Nat}
theorem can_iff (hu : ∀ j, (o.getD j []).length ≤ L ∧ ∀ a ∈ o.getD j [], a ∈ univ) (hF : L + univ.length * (L + 1) ≤ seekF) : giveR o ok is fixed = countK is o.length ↔ CanP o ok is fixed o.length := by
  rw [give_iff hu hF]
  refine ⟨fun h => ?_, can_lack⟩
  rcases give_step (ok := ok) (is := is) (fixed := fixed) hu hF o.length with h1 | ⟨_, h2⟩
  · exact all_can h1
  · exact absurd h2 h
theorem lack_or_can (hu : ∀ j, (o.getD j []).length ≤ L ∧ ∀ a ∈ o.getD j [], a ∈ univ) (hF : L + univ.length * (L + 1) ≤ seekF) (h : ¬ CanP o ok is fixed o.length) : LackP o ok is fixed o.length := by
  rcases give_step (ok := ok) (is := is) (fixed := fixed) hu hF o.length with h1 | ⟨_, h2⟩
  · exact absurd (all_can h1) h
  · exact h2
theorem can_congr {is' : Nat → Bool} (hi : ∀ j, j < n → is j = is' j) (h : CanP o ok is fixed n) : CanP o ok is' fixed n := by
  obtain ⟨M, m1, m2⟩ := h
  exact ⟨M, fun j hj h1 => m1 j hj (by rw [hi j hj]; exact h1), fun i j h1 h2 h3 h4 e => m2 i j h1 h2 (by rw [hi i h1]; exact h3) (by rw [hi j h2]; exact h4) e⟩
theorem can_sub {is' : Nat → Bool} (hi : ∀ j, is' j = true → is j = true) (h : CanP o ok is fixed n) : CanP o ok is' fixed n := by
  obtain ⟨M, m1, m2⟩ := h
  exact ⟨M, fun j hj h1 => m1 j hj (hi j h1), fun i j h1 h2 h3 h4 e => m2 i j h1 h2 (hi i h3) (hi j h4) e⟩
end
theorem numbers_has {n i : Nat} (hi : i < n) : hasN (numbersL n) i = true := by
  unfold hasN numbersL
  simp only [decide_eq_true_eq]
  exact List.mem_map.2 ⟨i, List.mem_range.2 hi, rfl⟩
theorem numbers_len (n : Nat) : (numbersL n).length = n := by unfold numbersL; rw [List.length_map, List.length_range]
/-- no pieces lack casts just if each can be given one -/
theorem fewest_iff {all : List (List Pl)} {univ : List Pl} {L : Nat} (hu : ∀ j, (all.getD j []).length ≤ L ∧ ∀ a ∈ all.getD j [], a ∈ univ) (hF : L + univ.length * (L + 1) ≤ seekF) : fewestL all = none ↔ CanP all (fun _ => true) (fun _ => true) [] all.length := by
  rw [← lacks_find hu hF, List.find?_eq_none]
  constructor
  · intro h
    have hm : numbersL all.length ∈ setsL all.length := sets_mem.2 (List.Sublist.refl _)
    have h1 := h _ hm
    have hc := countC_set (sets_set hm)
    have hle := give_le all (fun _ => true) (fun i => hasN (numbersL all.length) i) [] all.length
    simp only [decide_eq_true_eq, Nat.not_lt] at h1
    have hg : giveR all (fun _ => true) (fun i => hasN (numbersL all.length) i) [] = countK (fun i => hasN (numbersL all.length) i) all.length := by
      have : giveR all (fun _ => true) (fun i => hasN (numbersL all.length) i) [] ≤ countK (fun i => hasN (numbersL all.length) i) all.length := hle
      omega
    exact can_congr (fun j hj => numbers_has hj) ((can_iff hu hF).1 hg)
  · intro h x hx
    have hc := countC_set (sets_set hx)
    have h2 := (can_iff (ok := fun _ => true) (is := fun i => hasN x i) (fixed := []) hu hF).2 (can_sub (fun _ _ => rfl) h)
    rw [hc] at h2
    simp only [decide_eq_true_eq, Nat.not_lt]
    omega

/-- the casts that fit each piece, of some moulds, but for some casts -/
def onlyL (all : List (List Pl)) (set : List Int) (but : List Pl) : List (List Pl) := all.map fun l => l.filter fun a => hasN set a.1 && !but.contains a
theorem only_get (all : List (List Pl)) (set : List Int) (but : List Pl) (j : Nat) : (onlyL all set but).getD j [] = (all.getD j []).filter fun a => hasN set a.1 && !but.contains a := by
  unfold onlyL
  rw [List.getD_eq_getElem?_getD, List.getElem?_map, List.getD_eq_getElem?_getD]
  cases all[j]? <;> rfl
theorem only_hu {all : List (List Pl)} {univ : List Pl} {L : Nat} (hu : ∀ j, (all.getD j []).length ≤ L ∧ ∀ a ∈ all.getD j [], a ∈ univ) (set : List Int) (but : List Pl) : ∀ j, ((onlyL all set but).getD j []).length ≤ L ∧ ∀ a ∈ (onlyL all set but).getD j [], a ∈ univ := fun j => by
  rw [only_get]
  exact ⟨Nat.le_trans (List.length_filter_le _ _) (hu j).1, fun a ha => (hu j).2 a (List.mem_filter.1 ha).1⟩
theorem drop_get (all : List (List Pl)) (i j : Nat) : (all.drop i).getD j [] = all.getD (i + j) [] := by
  rw [List.getD_eq_getElem?_getD, List.getElem?_drop, List.getD_eq_getElem?_getD]
theorem drop_hu {all : List (List Pl)} {univ : List Pl} {L : Nat} (hu : ∀ j, (all.getD j []).length ≤ L ∧ ∀ a ∈ all.getD j [], a ∈ univ) (i : Nat) : ∀ j, ((all.drop i).getD j []).length ≤ L ∧ ∀ a ∈ (all.drop i).getD j [], a ∈ univ := fun j => by
  rw [drop_get]; exact hu _
theorem can_only {all : List (List Pl)} {set : List Int} {but : List Pl} {i : Nat} (hi : i ≤ all.length) : CanP ((onlyL all set but).drop i) (fun _ => true) (fun _ => true) [] ((onlyL all set but).drop i).length ↔ CanP all (fun a => hasN set a.1) (fun j => decide (i ≤ j)) but all.length := by
  have hlen : ((onlyL all set but).drop i).length = all.length - i := by unfold onlyL; rw [List.length_drop, List.length_map]
  rw [hlen]
  constructor
  · rintro ⟨M, m1, m2⟩
    refine ⟨fun j => M (j - i), fun j hj h1 => ?_, fun a b ha hb h1 h2 e => ?_⟩
    · have h1 : i ≤ j := by simpa using h1
      obtain ⟨q1, _, _⟩ := m1 (j - i) (by omega) rfl
      rw [drop_get, only_get, show i + (j - i) = j by omega, List.mem_filter] at q1
      obtain ⟨q1, q2⟩ := q1
      simp only [Bool.and_eq_true, Bool.not_eq_true', List.contains_eq_mem, decide_eq_false_iff_not] at q2
      exact ⟨q1, q2.1, q2.2⟩
    · have h1 : i ≤ a := by simpa using h1
      have h2 : i ≤ b := by simpa using h2
      have := m2 (a - i) (b - i) (by omega) (by omega) rfl rfl e
      omega
  · rintro ⟨M, m1, m2⟩
    refine ⟨fun j => M (i + j), fun j hj _ => ?_, fun a b ha hb _ _ e => ?_⟩
    · obtain ⟨q1, q2, q3⟩ := m1 (i + j) (by omega) (by simp)
      rw [drop_get, only_get, List.mem_filter]
      refine ⟨⟨q1, ?_⟩, rfl, fun h => by cases h⟩
      simp only [Bool.and_eq_true, Bool.not_eq_true', List.contains_eq_mem, decide_eq_false_iff_not]
      exact ⟨q2, q3⟩
    · have := m2 (i + a) (i + b) (by omega) (by omega) (by simp) (by simp) e
      omega
theorem count_from (i : Nat) : ∀ k, countK (fun j => decide (i < j)) k = k - i - 1 := by
  intro k
  induction k with
  | zero => show 0 = _; omega
  | succ k ih =>
    rw [countK_succ, ih]
    by_cases h : i < k
    · rw [if_pos (by simpa using h)]; omega
    · rw [if_neg (by simpa using h)]; omega
theorem count_all : ∀ k, countK (fun _ => true) k = k := by
  intro k
  induction k with
  | zero => rfl
  | succ k ih => rw [countK_succ, ih, if_pos rfl]
/-- the document's first plan, piece by piece -/
def firstL (all : List (List Pl)) (set : List Int) (k : Nat) : List Pl :=
  (List.range k).foldl (fun out i =>
    match ((onlyL all set out).getD i []).find? fun a => (fewestL ((onlyL all set (out ++ [a])).drop (i + 1))).isNone with
    | some a => out ++ [a]
    | none => out) []
theorem planK_succ (o : List (List Pl)) (set : List Int) (k : Nat) : planK o set (k + 1) = match (o.getD k []).find? fun a => hasN set a.1 && !(planK o set k).contains a && decide (giveR o (fun p => hasN set p.1) (fun j => decide (k < j)) (planK o set k ++ [a]) = o.length - k - 1) with
    | some a => planK o set k ++ [a]
    | none => planK o set k := by
  unfold planK; rw [List.range_succ, List.foldl_append]; rfl
theorem firstL_succ (all : List (List Pl)) (set : List Int) (k : Nat) : firstL all set (k + 1) = match ((onlyL all set (firstL all set k)).getD k []).find? fun a => (fewestL ((onlyL all set (firstL all set k ++ [a])).drop (k + 1))).isNone with
    | some a => firstL all set k ++ [a]
    | none => firstL all set k := by
  unfold firstL; rw [List.range_succ, List.foldl_append]; rfl
theorem find_filter (p q : Pl → Bool) (l : List Pl) : (l.filter p).find? q = l.find? fun a => p a && q a := by
  induction l with
  | nil => rfl
  | cons a l ih =>
    by_cases h : p a = true
    · rw [List.filter_cons_of_pos h, List.find?_cons, List.find?_cons, ih, h, Bool.true_and]
    · rw [List.filter_cons_of_neg h, List.find?_cons, ih]
      have : p a = false := by simpa using h
      rw [this, Bool.false_and]
section
variable {o : List (List Pl)} {univ : List Pl} {L : Nat} {set : List Int}
theorem pick_iff (hu : ∀ j, (o.getD j []).length ≤ L ∧ ∀ a ∈ o.getD j [], a ∈ univ) (hF : L + univ.length * (L + 1) ≤ seekF) (i : Nat) (plan : List Pl) :
    giveR o (fun p => hasN set p.1) (fun j => decide (i < j)) plan = o.length - i - 1 ↔ CanP o (fun p => hasN set p.1) (fun j => decide (i < j)) plan o.length := by
  rw [← can_iff hu hF, count_from]
theorem pick_same (hu : ∀ j, (o.getD j []).length ≤ L ∧ ∀ a ∈ o.getD j [], a ∈ univ) (hF : L + univ.length * (L + 1) ≤ seekF) {i : Nat} (hi : i < o.length) (plan : List Pl) :
    (fewestL ((onlyL o set plan).drop (i + 1))).isNone = decide (giveR o (fun p => hasN set p.1) (fun j => decide (i < j)) plan = o.length - i - 1) := by
  rw [Bool.eq_iff_iff, Option.isNone_iff_eq_none, decide_eq_true_eq, pick_iff hu hF, fewest_iff (drop_hu (only_hu hu set plan) (i + 1)) hF, can_only (by omega)]
  exact ⟨can_congr fun j _ => by rw [decide_eq_decide]; omega, can_congr fun j _ => by rw [decide_eq_decide]; omega⟩
theorem plan_first (hu : ∀ j, (o.getD j []).length ≤ L ∧ ∀ a ∈ o.getD j [], a ∈ univ) (hF : L + univ.length * (L + 1) ≤ seekF) : ∀ k, k ≤ o.length → planK o set k = firstL o set k := by
  intro k
  induction k with
  | zero => intro _; rfl
  | succ k ih =>
    intro hk
    rw [planK_succ, firstL_succ, ih (by omega), only_get, find_filter]
    have : (fun a : Pl => hasN set a.1 && !(firstL o set k).contains a && (fewestL ((onlyL o set (firstL o set k ++ [a])).drop (k + 1))).isNone) = fun a => hasN set a.1 && !(firstL o set k).contains a && decide (giveR o (fun p => hasN set p.1) (fun j => decide (k < j)) (firstL o set k ++ [a]) = o.length - k - 1) := by
      funext a; rw [pick_same hu hF (show k < o.length by omega)]
    rw [this]
/-- piece by piece the rest can still be given casts -/
theorem plan_can (hu : ∀ j, (o.getD j []).length ≤ L ∧ ∀ a ∈ o.getD j [], a ∈ univ) (hF : L + univ.length * (L + 1) ≤ seekF) (h : CanP o (fun p => hasN set p.1) (fun _ => true) [] o.length) : ∀ k, k ≤ o.length →
    (planK o set k).length = k ∧ CanP o (fun p => hasN set p.1) (fun j => decide (k ≤ j)) (planK o set k) o.length ∧ (planK o set k).Nodup ∧ ∀ i a, (planK o set k)[i]? = some a → a ∈ o.getD i [] ∧ hasN set a.1 = true := by
  intro k
  induction k with
  | zero => intro _; exact ⟨rfl, can_congr (fun j _ => by simp) h, List.nodup_nil, fun i a hi => by simp [planK] at hi⟩
  | succ k ih =>
    intro hk
    obtain ⟨h1, ⟨M, m1, m2⟩, h3, h4⟩ := ih (by omega)
    have hstep : planK o set (k + 1) = match (o.getD k []).find? fun a => hasN set a.1 && !(planK o set k).contains a && decide (giveR o (fun p => hasN set p.1) (fun j => decide (k < j)) (planK o set k ++ [a]) = o.length - k - 1) with
        | some a => planK o set k ++ [a]
        | none => planK o set k := planK_succ o set k
    obtain ⟨q1, q2, q3⟩ := m1 k (by omega) (by simp)
    have hM : CanP o (fun p => hasN set p.1) (fun j => decide (k < j)) (planK o set k ++ [M k]) o.length := by
      refine ⟨M, fun j hj hd => ?_, fun i j hi hj d1 d2 e => m2 i j hi hj (by simp at d1 ⊢; omega) (by simp at d2 ⊢; omega) e⟩
      have hd : k < j := by simpa using hd
      obtain ⟨w1, w2, w3⟩ := m1 j hj (by simp; omega)
      refine ⟨w1, w2, fun hm => ?_⟩
      rcases List.mem_append.1 hm with hm | hm
      · exact w3 hm
      · have := m2 j k hj (by omega) (by simp; omega) (by simp) (List.mem_singleton.1 hm)
        omega
    cases hf : (o.getD k []).find? fun a => hasN set a.1 && !(planK o set k).contains a && decide (giveR o (fun p => hasN set p.1) (fun j => decide (k < j)) (planK o set k ++ [a]) = o.length - k - 1) with
    | none =>
      rw [List.find?_eq_none] at hf
      have := hf (M k) q1
      rw [(pick_iff hu hF k _).2 hM] at this
      have q2' : hasN set (M k).1 = true := q2
      simp [q2', q3] at this
    | some a =>
      rw [hf] at hstep
      dsimp only at hstep
      have hp := List.find?_some hf
      have hm := List.mem_of_find?_eq_some hf
      simp only [Bool.and_eq_true, Bool.not_eq_true', List.contains_eq_mem, decide_eq_false_iff_not, decide_eq_true_eq] at hp
      obtain ⟨⟨p1, p2⟩, p3⟩ := hp
      rw [hstep]
      refine ⟨by rw [List.length_append, h1]; rfl, can_congr (fun j _ => by rw [decide_eq_decide]; omega) ((pick_iff hu hF k _).1 p3), ?_, fun i b hi => ?_⟩
      · rw [List.nodup_append]
        refine ⟨h3, by simp, fun x hx y hy e => ?_⟩
        rw [List.mem_singleton] at hy
        rw [e, hy] at hx
        exact p2 hx
      · by_cases hik : i < k
        · rw [List.getElem?_append_left (by omega)] at hi
          exact h4 i b hi
        · rw [List.getElem?_append_right (by omega), h1] at hi
          have : i = k := by
            have := (List.getElem?_eq_some_iff.1 hi).1
            simp at this; omega
          subst this
          rw [Nat.sub_self] at hi
          simp at hi
          subst hi
          exact ⟨hm, p1⟩
end
end Go.Proofs.YtpdldmichpmgmaaGreat

namespace Go.Proofs.YtpdldmichpmgmaaGreat

section
variable {o : List (List Pl)} {univ : List Pl} {L : Nat}
theorem some_succ (o : List (List Pl)) (k : Nat) : someK o (k + 1) = if giveR o (fun _ => true) (fun j => hasN (someK o k) j || decide (j = k)) [] = (someK o k).length + 1 then someK o k ++ [(k : Int)] else someK o k := by
  unfold someK; rw [List.range_succ, List.foldl_append]; rfl
theorem set_snoc {k n : Nat} {G : List Int} (h : IsSet k G) (hk : k < n) : IsSet n (G ++ [(k : Int)]) := by
  refine ⟨?_, fun i hi => ?_⟩
  · rw [List.pairwise_append]
    refine ⟨h.1, by simp, fun a ha b hb => ?_⟩
    rw [List.mem_singleton] at hb
    have := (h.2 a ha).2
    omega
  · rcases List.mem_append.1 hi with hi | hi
    · have := h.2 i hi
      omega
    · rw [List.mem_singleton] at hi
      omega
theorem set_mono {k n : Nat} {G : List Int} (h : IsSet k G) (hk : k ≤ n) : IsSet n G := ⟨h.1, fun i hi => by have := h.2 i hi; omega⟩
theorem has_snoc (G : List Int) (k j : Nat) : hasN (G ++ [(k : Int)]) j = (hasN G j || decide (j = k)) := by
  unfold hasN
  rw [Bool.eq_iff_iff]
  simp only [decide_eq_true_eq, Bool.or_eq_true, List.mem_append, List.mem_singleton]
  constructor
  · rintro (h | h)
    · exact .inl h
    · exact .inr (by omega)
  · rintro (h | h)
    · exact .inl h
    · exact .inr (by omega)
theorem some_test {k : Nat} (hu : ∀ j, (o.getD j []).length ≤ L ∧ ∀ a ∈ o.getD j [], a ∈ univ) (hF : L + univ.length * (L + 1) ≤ seekF) (h : IsSet k (someK o k)) (hk : k < o.length) :
    giveR o (fun _ => true) (fun j => hasN (someK o k) j || decide (j = k)) [] = (someK o k).length + 1 ↔ CanP o (fun _ => true) (fun j => hasN (someK o k) j || decide (j = k)) [] o.length := by
  rw [← can_iff hu hF]
  have hs := countC_set (set_snoc h hk)
  have e : (fun i => hasN (someK o k ++ [(k : Int)]) i) = fun j => hasN (someK o k) j || decide (j = k) := by funext j; exact has_snoc _ _ _
  rw [e, List.length_append] at hs
  rw [hs]; rfl
/-- what is chosen so far: a set, which can be given casts; pieces that are not chosen could not -/
theorem some_inv (hu : ∀ j, (o.getD j []).length ≤ L ∧ ∀ a ∈ o.getD j [], a ∈ univ) (hF : L + univ.length * (L + 1) ≤ seekF) : ∀ k, k ≤ o.length →
    IsSet k (someK o k) ∧ CanP o (fun _ => true) (fun j => hasN (someK o k) j) [] o.length ∧
    ∀ i, i < k → hasN (someK o k) i = false → LackP o (fun _ => true) (fun j => (hasN (someK o k) j && decide (j < i)) || decide (j = i)) [] o.length := by
  intro k
  induction k with
  | zero =>
    intro _
    refine ⟨⟨List.Pairwise.nil, fun i hi => by cases hi⟩, ⟨fun _ => (0, 0), fun j _ h => ?_, fun i j _ _ h => ?_⟩, fun i hi => by omega⟩
    · simp [someK, hasN] at h
    · simp [someK, hasN] at h
  | succ k ih =>
    intro hk
    obtain ⟨h1, h2, h3⟩ := ih (by omega)
    have ht := some_test hu hF h1 (show k < o.length by omega)
    rw [some_succ]
    by_cases hg : giveR o (fun _ => true) (fun j => hasN (someK o k) j || decide (j = k)) [] = (someK o k).length + 1
    · rw [if_pos hg]
      refine ⟨set_snoc h1 (by omega), can_congr (fun j _ => (has_snoc _ _ _).symm) (ht.1 hg), fun i hi hn => ?_⟩
      rw [has_snoc] at hn
      have hn' : hasN (someK o k) i = false ∧ i ≠ k := by simpa using hn
      obtain ⟨S, D, s1, s2, s3, s4⟩ := h3 i (by omega) hn'.1
      refine ⟨S, D, s1, fun j hj => ⟨(s2 j hj).1, ?_⟩, s3, s4⟩
      have := (s2 j hj).2
      dsimp only at this ⊢
      rw [has_snoc]
      simp only [Bool.or_eq_true, Bool.and_eq_true, decide_eq_true_eq] at this ⊢
      rcases this with h | h
      · exact .inl ⟨.inl h.1, h.2⟩
      · exact .inr h
    · rw [if_neg hg]
      refine ⟨set_mono h1 (by omega), h2, fun i hi hn => ?_⟩
      by_cases hik : i < k
      · exact h3 i hik hn
      · have : i = k := by omega
        subst this
        obtain ⟨S, D, s1, s2, s3, s4⟩ := lack_or_can hu hF (fun hc => hg (ht.2 hc))
        refine ⟨S, D, s1, fun j hj => ⟨(s2 j hj).1, ?_⟩, s3, s4⟩
        have := (s2 j hj).2
        simp only [Bool.or_eq_true, Bool.and_eq_true, decide_eq_true_eq] at this ⊢
        rcases this with h | h
        · refine .inl ⟨h, ?_⟩
          have : ((j : Nat) : Int) ∈ someK o i := by simpa [hasN] using h
          have := (h1.2 _ this).2
          omega
        · exact .inr h
/-- casts of a chosen set that some pieces take up: a piece that was left out has no others -/
def Tight (o : List (List Pl)) (G : List Int) (M : Nat → Pl) (i : Nat) : Prop :=
  ∃ T : List Nat, T.Nodup ∧ (∀ t ∈ T, hasN G t = true ∧ t < i) ∧ ∀ j, (j = i ∨ j ∈ T) → ∀ c ∈ o.getD j [], ∃ t ∈ T, M t = c
theorem tight_of {G : List Int} {M : Nat → Pl} {n i : Nat} (hG : ∀ j, hasN G j = true → j < n) (m1 : ∀ j, hasN G j = true → M j ∈ o.getD j []) (m2 : ∀ a b, hasN G a = true → hasN G b = true → M a = M b → a = b)
    (h : LackP o (fun _ => true) (fun j => (hasN G j && decide (j < i)) || decide (j = i)) [] n) : Tight o G M i := by
  obtain ⟨S, D, s1, s2, s3, s4⟩ := h
  have hT : ∀ t ∈ S.filter (fun t => decide (t ≠ i)), hasN G t = true ∧ t < i := fun t ht => by
    obtain ⟨h1, h2⟩ := List.mem_filter.1 ht
    have h3 := (s2 t h1).2
    have h2 : t ≠ i := by simpa using h2
    simp only [Bool.or_eq_true, Bool.and_eq_true, decide_eq_true_eq] at h3
    rcases h3 with h3 | h3
    · exact h3
    · exact absurd h3 h2
  have hTn : (S.filter fun t => decide (t ≠ i)).Nodup := s1.filter _
  have hMn : ((S.filter fun t => decide (t ≠ i)).map M).Nodup := map_nodup hTn fun a ha b hb e => m2 a b (hT a ha).1 (hT b hb).1 e
  have hsub : ∀ a ∈ (S.filter fun t => decide (t ≠ i)).map M, a ∈ D := fun a ha => by
    obtain ⟨t, ht, rfl⟩ := List.mem_map.1 ha
    exact s3 t (List.mem_filter.1 ht).1 _ (m1 t (hT t ht).1) rfl (fun h => by cases h)
  have hlen : S.length ≤ (S.filter fun t => decide (t ≠ i)).length + 1 := by
    have : S.length ≤ (i :: S.filter fun t => decide (t ≠ i)).length := nodup_le _ _ s1 fun a ha => by
      by_cases h : a = i
      · rw [h]; exact List.mem_cons_self
      · exact List.mem_cons_of_mem _ (List.mem_filter.2 ⟨ha, by simpa using h⟩)
    rwa [List.length_cons] at this
  have hD : D.length ≤ ((S.filter fun t => decide (t ≠ i)).map M).length := by rw [List.length_map]; omega
  have hDM : ∀ c ∈ D, c ∈ (S.filter fun t => decide (t ≠ i)).map M := fun c hc => Classical.byContradiction fun hn => by
    have := nodup_le (c :: (S.filter fun t => decide (t ≠ i)).map M) D (List.nodup_cons.2 ⟨hn, hMn⟩) (fun a ha => by
      rcases List.mem_cons.1 ha with e | h
      · rw [e]; exact hc
      · exact hsub a h)
    rw [List.length_cons] at this
    omega
  have hiS : i ∈ S := Classical.byContradiction fun hn => by
    have h1 : S.length ≤ (S.filter fun t => decide (t ≠ i)).length := nodup_le _ _ s1 fun a ha => List.mem_filter.2 ⟨ha, by simpa using fun e : a = i => hn (by rw [← e]; exact ha)⟩
    have h2 := nodup_le _ D hMn hsub
    rw [List.length_map] at h2
    omega
  refine ⟨S.filter fun t => decide (t ≠ i), hTn, hT, fun j hj c hc => ?_⟩
  have hjS : j ∈ S := by
    rcases hj with rfl | hj
    · exact hiS
    · exact (List.mem_filter.1 hj).1
  obtain ⟨t, ht, e⟩ := List.mem_map.1 (hDM c (s3 j hjS c hc rfl (fun h => by cases h)))
  exact ⟨t, ht, e⟩
/-- no set that can be given casts is greater than what is chosen -/
theorem some_most (hu : ∀ j, (o.getD j []).length ≤ L ∧ ∀ a ∈ o.getD j [], a ∈ univ) (hF : L + univ.length * (L + 1) ≤ seekF) {J : List Int} (hJ : IsSet o.length J) (hc : CanP o (fun _ => true) (fun j => hasN J j) [] o.length) : J.length ≤ (someK o o.length).length := by
  obtain ⟨g1, ⟨M, m1, m2⟩, g3⟩ := some_inv hu hF o.length (Nat.le_refl _)
  obtain ⟨M', w1, w2⟩ := hc
  have hlt : ∀ j, hasN (someK o o.length) j = true → j < o.length := fun j hj => by
    have : ((j : Nat) : Int) ∈ someK o o.length := by simpa [hasN] using hj
    have := (g1.2 _ this).2
    omega
  have htight : ∀ i, i < o.length → hasN (someK o o.length) i = false → Tight o (someK o o.length) M i := fun i hi hn =>
    tight_of hlt (fun j hj => (m1 j (hlt j hj) hj).1) (fun a b ha hb e => m2 a b (hlt a ha) (hlt b hb) ha hb e) (g3 i hi hn)
  -- a piece all of whose casts are taken up by chosen pieces of this kind
  have hex : ∀ j : Nat, ∃ t : Nat, hasN J j = true → j < o.length → hasN (someK o o.length) t = true ∧
      ((t = j ∧ ¬ ∃ T : List Nat, (∀ t ∈ T, hasN (someK o o.length) t = true) ∧ ∀ x, (x = j ∨ x ∈ T) → ∀ c ∈ o.getD x [], ∃ t ∈ T, M t = c) ∨
       (M t = M' j ∧ ∃ T : List Nat, (∀ t ∈ T, hasN (someK o o.length) t = true) ∧ ∀ x, (x = t ∨ x ∈ T) → ∀ c ∈ o.getD x [], ∃ t ∈ T, M t = c)) := fun j => by
    by_cases hj : hasN J j = true ∧ j < o.length
    · by_cases hC : ∃ T : List Nat, (∀ t ∈ T, hasN (someK o o.length) t = true) ∧ ∀ x, (x = j ∨ x ∈ T) → ∀ c ∈ o.getD x [], ∃ t ∈ T, M t = c
      · obtain ⟨T, t1, t2⟩ := hC
        obtain ⟨t, ht, e⟩ := t2 j (.inl rfl) (M' j) (w1 j hj.2 hj.1).1
        refine ⟨t, fun _ _ => ⟨t1 t ht, .inr ⟨e, T, t1, fun x hx => ?_⟩⟩⟩
        rcases hx with rfl | hx
        · exact t2 x (.inr ht)
        · exact t2 x (.inr hx)
      · refine ⟨j, fun _ _ => ⟨?_, .inl ⟨rfl, hC⟩⟩⟩
        cases hg : hasN (someK o o.length) j with
        | true => rfl
        | false =>
          obtain ⟨T, _, t1, t2⟩ := htight j hj.2 hg
          exact absurd ⟨T, fun t ht => (t1 t ht).1, t2⟩ hC
    · exact ⟨0, fun h1 h2 => absurd ⟨h1, h2⟩ hj⟩
  obtain ⟨F, hF2⟩ := Classical.axiomOfChoice hex
  have hJm : ∀ x ∈ J, hasN J x.toNat = true ∧ x.toNat < o.length ∧ ((x.toNat : Nat) : Int) = x := fun x hx => by
    have := hJ.2 x hx
    have e : ((x.toNat : Nat) : Int) = x := by omega
    exact ⟨by unfold hasN; rw [e]; simpa using hx, by omega, e⟩
  have hn : (J.map fun x => ((F x.toNat : Nat) : Int)).Nodup := by
    unfold List.Nodup
    rw [List.pairwise_map]
    refine List.Pairwise.imp_of_mem (fun {a b} ha hb hne e => ?_) hJ.1
    obtain ⟨a1, a2, a3⟩ := hJm a ha
    obtain ⟨b1, b2, b3⟩ := hJm b hb
    have e : F a.toNat = F b.toNat := by omega
    obtain ⟨p1, p2⟩ := hF2 a.toNat a1 a2
    obtain ⟨q1, q2⟩ := hF2 b.toNat b1 b2
    have hab : a.toNat = b.toNat := by
      rcases p2 with ⟨p2, p3⟩ | ⟨p2, p3⟩ <;> rcases q2 with ⟨q2, q3⟩ | ⟨q2, q3⟩
      · omega
      · rw [e.symm.trans p2] at q3; exact absurd q3 p3
      · rw [e.trans q2] at p3; exact absurd p3 q3
      · rw [e, q2] at p2
        exact (w2 _ _ b2 a2 b1 a1 p2).symm
    omega
  have := nodup_le _ (someK o o.length) hn (fun x hx => by
    obtain ⟨y, hy, rfl⟩ := List.mem_map.1 hx
    obtain ⟨b1, b2, b3⟩ := hJm y hy
    have := (hF2 y.toNat b1 b2).1
    simpa [hasN] using this)
  rwa [List.length_map] at this
theorem lex_split : ∀ xs ys : List Int, xs.length = ys.length → lexC xs ys < 0 → ∃ p x y s t, xs = p ++ x :: s ∧ ys = p ++ y :: t ∧ x < y := by
  intro xs
  induction xs with
  | nil =>
    intro ys hl h
    cases ys with
    | nil => simp [lexC] at h
    | cons y ys => cases hl
  | cons x xs ih =>
    intro ys hl h
    cases ys with
    | nil => cases hl
    | cons y ys =>
      rcases lexC_neg.1 h with h | ⟨rfl, h2⟩
      · exact ⟨[], x, y, xs, ys, rfl, rfl, h⟩
      · obtain ⟨p, a, b, s, t, e1, e2, e3⟩ := ih ys (by simpa using hl) h2
        exact ⟨x :: p, a, b, s, t, by rw [e1]; rfl, by rw [e2]; rfl, e3⟩
/-- nor does one of as many come before it -/
theorem some_first (hu : ∀ j, (o.getD j []).length ≤ L ∧ ∀ a ∈ o.getD j [], a ∈ univ) (hF : L + univ.length * (L + 1) ≤ seekF) {J : List Int} (hJ : IsSet o.length J) (hl : J.length = (someK o o.length).length) (hlt : lexC J (someK o o.length) < 0) : ¬ CanP o (fun _ => true) (fun j => hasN J j) [] o.length := by
  intro hc
  obtain ⟨g1, ⟨M, m1, m2⟩, g3⟩ := some_inv hu hF o.length (Nat.le_refl _)
  obtain ⟨M', w1, w2⟩ := hc
  have hlt2 : ∀ j, hasN (someK o o.length) j = true → j < o.length := fun j hj => by
    have : ((j : Nat) : Int) ∈ someK o o.length := by simpa [hasN] using hj
    have := (g1.2 _ this).2
    omega
  obtain ⟨p, x, y, s, t, e1, e2, hxy⟩ := lex_split _ _ hl hlt
  have hx := hJ.2 x (by rw [e1]; simp)
  have ex : ((x.toNat : Nat) : Int) = x := by omega
  have hGp := g1.1
  rw [e2, List.pairwise_append] at hGp
  have hJp := hJ.1
  rw [e1, List.pairwise_append] at hJp
  have hxG : hasN (someK o o.length) x.toNat = false := by
    unfold hasN
    rw [ex, decide_eq_false_iff_not, e2]
    intro hm
    rcases List.mem_append.1 hm with hm | hm
    · have := hJp.2.2 x hm x List.mem_cons_self
      omega
    · rcases List.mem_cons.1 hm with hm | hm
      · omega
      · have := (List.pairwise_cons.1 hGp.2.1).1 x hm
        omega
  obtain ⟨T, t0, t1, t2⟩ := tight_of hlt2 (fun j hj => (m1 j (hlt2 j hj) hj).1) (fun a b ha hb e => m2 a b (hlt2 a ha) (hlt2 b hb) ha hb e) (g3 x.toNat (by omega) hxG)
  have hTJ : ∀ j, (j = x.toNat ∨ j ∈ T) → hasN J j = true ∧ j < o.length := fun j hj => by
    rcases hj with rfl | hj
    · exact ⟨by unfold hasN; rw [ex, e1]; simp, by omega⟩
    · obtain ⟨q1, q2⟩ := t1 j hj
      have hm : ((j : Nat) : Int) ∈ someK o o.length := by simpa [hasN] using q1
      rw [e2] at hm
      refine ⟨?_, hlt2 j q1⟩
      unfold hasN
      rw [decide_eq_true_eq, e1]
      rcases List.mem_append.1 hm with hm | hm
      · exact List.mem_append_left _ hm
      · exfalso
        rcases List.mem_cons.1 hm with hm | hm
        · omega
        · have := (List.pairwise_cons.1 hGp.2.1).1 _ hm
          omega
  have hxT : x.toNat ∉ T := fun h => by have := (t1 _ h).2; omega
  have hn : ((x.toNat :: T).map M').Nodup := map_nodup (List.nodup_cons.2 ⟨hxT, t0⟩) fun a ha b hb e => by
    obtain ⟨a1, a2⟩ := hTJ a (List.mem_cons.1 ha)
    obtain ⟨b1, b2⟩ := hTJ b (List.mem_cons.1 hb)
    exact w2 a b a2 b2 a1 b1 e
  have := nodup_le _ (T.map M) hn (fun c hc => by
    obtain ⟨j, hj, rfl⟩ := List.mem_map.1 hc
    obtain ⟨a1, a2⟩ := hTJ j (List.mem_cons.1 hj)
    obtain ⟨t, ht, e⟩ := t2 j (List.mem_cons.1 hj) (M' j) (w1 j a2 a1).1
    exact List.mem_map.2 ⟨t, ht, e⟩)
  rw [List.length_map, List.length_map, List.length_cons] at this
  omega
end
/-- the casts that fit each of some pieces -/
def chosenL (all : List (List Pl)) (set : List Int) : List (List Pl) := set.map fun i => all.getD i.toNat []
theorem chosen_hu {all : List (List Pl)} {univ : List Pl} {L : Nat} (hu : ∀ j, (all.getD j []).length ≤ L ∧ ∀ a ∈ all.getD j [], a ∈ univ) (set : List Int) : ∀ j, ((chosenL all set).getD j []).length ≤ L ∧ ∀ a ∈ (chosenL all set).getD j [], a ∈ univ := fun j => by
  unfold chosenL
  rw [List.getD_eq_getElem?_getD, List.getElem?_map]
  cases set[j]? with
  | none => exact ⟨Nat.zero_le _, fun a ha => by cases ha⟩
  | some i => exact hu _
theorem chosen_get {all : List (List Pl)} {set : List Int} {j : Nat} (hj : j < set.length) : (chosenL all set).getD j [] = all.getD (set[j]).toNat [] := by
  unfold chosenL
  rw [List.getD_eq_getElem?_getD, List.getElem?_map, List.getElem?_eq_getElem hj]; rfl
theorem chosen_can {all : List (List Pl)} {set : List Int} (h : IsSet all.length set) : CanP (chosenL all set) (fun _ => true) (fun _ => true) [] (chosenL all set).length ↔ CanP all (fun _ => true) (fun j => hasN set j) [] all.length := by
  have hlen : (chosenL all set).length = set.length := by unfold chosenL; rw [List.length_map]
  rw [hlen]
  have hnd := set_nodup h
  constructor
  · rintro ⟨M, m1, m2⟩
    have hix : ∀ j : Nat, hasN set j = true → ∃ k, ∃ hk : k < set.length, set[k] = (j : Int) := fun j hj => List.getElem_of_mem (by simpa [hasN] using hj)
    have hex : ∀ j : Nat, ∃ k : Nat, hasN set j = true → set[k]? = some (j : Int) := fun j => by
      by_cases hj : hasN set j = true
      · obtain ⟨k, hk, e⟩ := hix j hj
        exact ⟨k, fun _ => by rw [List.getElem?_eq_getElem hk, e]⟩
      · exact ⟨0, fun h => absurd h hj⟩
    obtain ⟨F, hF⟩ := Classical.axiomOfChoice hex
    refine ⟨fun j => M (F j), fun j _ hj => ?_, fun a b _ _ ha hb e => ?_⟩
    · obtain ⟨hk, e⟩ := List.getElem?_eq_some_iff.1 (hF j hj)
      obtain ⟨q1, _, _⟩ := m1 (F j) hk rfl
      rw [chosen_get hk, e] at q1
      exact ⟨q1, rfl, fun h => by cases h⟩
    · obtain ⟨ha2, ea⟩ := List.getElem?_eq_some_iff.1 (hF a ha)
      obtain ⟨hb2, eb⟩ := List.getElem?_eq_some_iff.1 (hF b hb)
      have := m2 (F a) (F b) ha2 hb2 rfl rfl e
      have h1 := hF a ha
      rw [this, hF b hb] at h1
      injection h1 with h1
      omega
  · rintro ⟨M, m1, m2⟩
    have hin : ∀ j (hj : j < set.length), hasN set (set[j]).toNat = true ∧ (set[j]).toNat < all.length ∧ (((set[j]).toNat : Nat) : Int) = set[j] := fun j hj => by
      have hm := List.getElem_mem hj
      have := h.2 _ hm
      have e : (((set[j]).toNat : Nat) : Int) = set[j] := by omega
      exact ⟨by unfold hasN; rw [e]; simpa using hm, by omega, e⟩
    refine ⟨fun j => M (set.getD j 0).toNat, fun j hj _ => ?_, fun a b ha hb _ _ e => ?_⟩
    · obtain ⟨q1, q2, _⟩ := hin j hj
      obtain ⟨w1, _, _⟩ := m1 _ q2 q1
      rw [chosen_get hj]
      have : set.getD j 0 = set[j] := by rw [List.getD_eq_getElem?_getD, List.getElem?_eq_getElem hj]; rfl
      dsimp only
      rw [this]
      exact ⟨w1, rfl, fun h => by cases h⟩
    · have e1 : set.getD a 0 = set[a] := by rw [List.getD_eq_getElem?_getD, List.getElem?_eq_getElem ha]; rfl
      have e2 : set.getD b 0 = set[b] := by rw [List.getD_eq_getElem?_getD, List.getElem?_eq_getElem hb]; rfl
      dsimp only at e
      rw [e1, e2] at e
      obtain ⟨q1, q2, q3⟩ := hin a ha
      obtain ⟨w1, w2, w3⟩ := hin b hb
      have := m2 _ _ q2 w2 q1 w1 e
      have e3 : set[a] = set[b] := by omega
      exact (List.getElem_inj hnd).1 e3
end Go.Proofs.YtpdldmichpmgmaaGreat
