/- A part of the proof that TopWorn always answers true. -/
import Derived.Test.YtdbfincinjoppabGreatDoorCCastHall2
import Derived.Test.YtdbfincinjoppabGreatDoorCIter3
import Derived.Test.YtdbfincinjoppabGreatDoorCKList
import Derived.Test.YtdbfincinjoppabGreatDoorCKOpen
import Derived.Test.YtdbfincinjoppabGreatDoorCKSort
set_option linter.all false
namespace Go.Proofs.YtdbfincinjoppabGreatDoor
def CanP (o : List (List Pl)) (ok : Pl → Bool) (is : Nat → Bool) (fixed : List Pl) (n : Nat) : Prop :=
 ∃ M : Nat → Pl, (∀ j, j < n → is j = true → M j ∈ o.getD j [] ∧ ok (M j) = true ∧ M j ∉ fixed) ∧ ∀ i j, i < n → j < n → is i = true → is j = true → M i = M j → i = j
section
variable {o : List (List Pl)} {ok : Pl → Bool} {is : Nat → Bool} {fixed : List Pl} {n : Nat}
theorem map_nodup {M : Nat → Pl} {S : List Nat} (hS : S.Nodup) (h : ∀ i ∈ S, ∀ j ∈ S, M i = M j → i = j) : (S.map M).Nodup := by
 unfold List.Nodup
 rw [List.pairwise_map]
 exact List.Pairwise.imp_of_mem (fun {a b} ha hb hne e => hne (h a ha b hb e)) hS
theorem can_lack (h : CanP o ok is fixed n) : ¬ LackP o ok is fixed n := by
 rintro ⟨S, D, s1, s2, s3, s4⟩
 obtain ⟨M, m1, m2⟩ := h
 have hn : (S.map M).Nodup := map_nodup s1 fun i hi j hj e => m2 i j (s2 i hi).1 (s2 j hj).1 (s2 i hi).2 (s2 j hj).2 e
 have := nodup_le (S.map M) D hn (fun a ha => by
  obtain ⟨j, hj, rfl⟩ := List.mem_map.1 ha
  obtain ⟨q1, q2, q3⟩ := m1 j (s2 j hj).1 (s2 j hj).2
  exact s3 j hj _ q1 q2 q3)
 rw [List.length_map] at this
 omega
theorem all_can {s : Nat × List (Pl × Int)} (h : AllHave o ok is fixed n s) : CanP o ok is fixed n := by
 have hex : ∀ j : Nat, ∃ a : Pl, j < n ∧ is j = true → ofL s.2 a = some (j : Int) := fun j => by
  by_cases hj : j < n ∧ is j = true
  ·obtain ⟨a, ha⟩ := (h.owns j).2 hj
   exact ⟨a, fun _ => ha⟩
  exact ⟨(0, 0), fun hh => absurd hh hj⟩
 obtain ⟨M, hM⟩ := Classical.axiomOfChoice hex
 refine ⟨M, fun j hj hi => ?_, fun i j hi hj h1 h2 e => ?_⟩
 ·have hf := hM j ⟨hj, hi⟩
  obtain ⟨g1, g2⟩ := h.given.good _ j hf
  refine ⟨g1, g2, fun hfx => ?_⟩
  have := h.held _ hfx
  rw [hf] at this
  injection this with this
  omega
 have ha := hM i ⟨hi, h1⟩
 have hb := hM j ⟨hj, h2⟩
 rw [e, hb] at ha
 injection ha with ha
 omega
variable {univ : List Pl} {L : Nat}
theorem can_iff (hu : ∀ j, (o.getD j []).length ≤ L ∧ ∀ a ∈ o.getD j [], a ∈ univ) (hF : L + univ.length * (L + 1) ≤ seekF) : giveR o ok is fixed = countK is o.length ↔ CanP o ok is fixed o.length := by
 rw [give_iff hu hF]
 refine ⟨fun h => ?_, can_lack⟩
 rcases give_step (ok := ok) (is := is) (fixed := fixed) hu hF o.length with h1 | ⟨_, h2⟩
 ·exact all_can h1
 exact absurd h2 h
theorem can_congr {is' : Nat → Bool} (hi : ∀ j, j < n → is j = is' j) (h : CanP o ok is fixed n) : CanP o ok is' fixed n := by
 obtain ⟨M, m1, m2⟩ := h
 exact ⟨M, fun j hj h1 => m1 j hj (by rw [hi j hj]; exact h1), fun i j h1 h2 h3 h4 e => m2 i j h1 h2 (by rw [hi i h1]; exact h3) (by rw [hi j h2]; exact h4) e⟩
theorem can_sub {is' : Nat → Bool} (hi : ∀ j, is' j = true → is j = true) (h : CanP o ok is fixed n) : CanP o ok is' fixed n := by
 obtain ⟨M, m1, m2⟩ := h
 exact ⟨M, fun j hj h1 => m1 j hj (hi j h1), fun i j h1 h2 h3 h4 e => m2 i j h1 h2 (hi i h3) (hi j h4) e⟩
end
theorem numbers_has {n i : Nat} (hi : i < n) : hasN (numbersL n) i = true := by
 unfold hasN numbersL
 simp only [decide_eq_true_eq]
 exact List.mem_map.2 ⟨i, List.mem_range.2 hi, rfl⟩
theorem fewest_iff {all : List (List Pl)} {univ : List Pl} {L : Nat} (hu : ∀ j, (all.getD j []).length ≤ L ∧ ∀ a ∈ all.getD j [], a ∈ univ) (hF : L + univ.length * (L + 1) ≤ seekF) : fewestL all = none ↔ CanP all (fun _ => true) (fun _ => true) [] all.length := by
 rw [← lacks_find hu hF, List.find?_eq_none]
 constructor
 ·intro h
  have hm : numbersL all.length ∈ setsL all.length := sets_mem.2 (List.Sublist.refl _)
  have h1 := h _ hm
  have hc := countC_set (sets_set hm)
  have hle := give_le all (fun _ => true) (fun i => hasN (numbersL all.length) i) [] all.length
  simp only [decide_eq_true_eq, Nat.not_lt] at h1
  have hg : giveR all (fun _ => true) (fun i => hasN (numbersL all.length) i) [] = countK (fun i => hasN (numbersL all.length) i) all.length := by
   have : giveR all (fun _ => true) (fun i => hasN (numbersL all.length) i) [] ≤ countK (fun i => hasN (numbersL all.length) i) all.length := hle
   omega
  exact can_congr (fun j hj => numbers_has hj) ((can_iff hu hF).1 hg)
 intro h x hx
 have hc := countC_set (sets_set hx)
 have h2 := (can_iff (ok := fun _ => true) (is := fun i => hasN x i) (fixed := []) hu hF).2 (can_sub (fun _ _ => rfl) h)
 rw [hc] at h2
 simp only [decide_eq_true_eq, Nat.not_lt]
 omega
def onlyL (all : List (List Pl)) (set : List Int) (but : List Pl) : List (List Pl) := all.map fun l => l.filter fun a => hasN set a.1 && !but.contains a
theorem only_get (all : List (List Pl)) (set : List Int) (but : List Pl) (j : Nat) : (onlyL all set but).getD j [] = (all.getD j []).filter fun a => hasN set a.1 && !but.contains a := by
 unfold onlyL
 rw [List.getD_eq_getElem?_getD, List.getElem?_map, List.getD_eq_getElem?_getD]
 cases all[j]? <;> rfl
theorem only_hu {all : List (List Pl)} {univ : List Pl} {L : Nat} (hu : ∀ j, (all.getD j []).length ≤ L ∧ ∀ a ∈ all.getD j [], a ∈ univ) (set : List Int) (but : List Pl) : ∀ j, ((onlyL all set but).getD j []).length ≤ L ∧ ∀ a ∈ (onlyL all set but).getD j [], a ∈ univ := fun j => by
 rw [only_get]
 exact ⟨Nat.le_trans (List.length_filter_le _ _) (hu j).1, fun a ha => (hu j).2 a (List.mem_filter.1 ha).1⟩
theorem drop_get (all : List (List Pl)) (i j : Nat) : (all.drop i).getD j [] = all.getD (i + j) [] := by
 rw [List.getD_eq_getElem?_getD, List.getElem?_drop, List.getD_eq_getElem?_getD]
theorem drop_hu {all : List (List Pl)} {univ : List Pl} {L : Nat} (hu : ∀ j, (all.getD j []).length ≤ L ∧ ∀ a ∈ all.getD j [], a ∈ univ) (i : Nat) : ∀ j, ((all.drop i).getD j []).length ≤ L ∧ ∀ a ∈ (all.drop i).getD j [], a ∈ univ := fun j => by
 rw [drop_get]; exact hu _
theorem can_only {all : List (List Pl)} {set : List Int} {but : List Pl} {i : Nat} (hi : i ≤ all.length) : CanP ((onlyL all set but).drop i) (fun _ => true) (fun _ => true) [] ((onlyL all set but).drop i).length ↔ CanP all (fun a => hasN set a.1) (fun j => decide (i ≤ j)) but all.length := by
 have hlen : ((onlyL all set but).drop i).length = all.length - i := by unfold onlyL; rw [List.length_drop, List.length_map]
 rw [hlen]
 constructor
 ·rintro ⟨M, m1, m2⟩
  refine ⟨fun j => M (j - i), fun j hj h1 => ?_, fun a b ha hb h1 h2 e => ?_⟩
  ·have h1 : i ≤ j := by simpa using h1
   obtain ⟨q1, _, _⟩ := m1 (j - i) (by omega) rfl
   rw [drop_get, only_get, show i + (j - i) = j by omega, List.mem_filter] at q1
   obtain ⟨q1, q2⟩ := q1
   simp only [Bool.and_eq_true, Bool.not_eq_true', List.contains_eq_mem, decide_eq_false_iff_not] at q2
   exact ⟨q1, q2.1, q2.2⟩
  have h1 : i ≤ a := by simpa using h1
  have h2 : i ≤ b := by simpa using h2
  have := m2 (a - i) (b - i) (by omega) (by omega) rfl rfl e
  omega
 rintro ⟨M, m1, m2⟩
 refine ⟨fun j => M (i + j), fun j hj _ => ?_, fun a b ha hb _ _ e => ?_⟩
 ·obtain ⟨q1, q2, q3⟩ := m1 (i + j) (by omega) (by simp)
  rw [drop_get, only_get, List.mem_filter]
  refine ⟨⟨q1, ?_⟩, rfl, fun h => by cases h⟩
  simp only [Bool.and_eq_true, Bool.not_eq_true', List.contains_eq_mem, decide_eq_false_iff_not]
  exact ⟨q2, q3⟩
 have := m2 (i + a) (i + b) (by omega) (by omega) (by simp) (by simp) e
 omega
theorem count_from (i : Nat) : ∀ k, countK (fun j => decide (i < j)) k = k - i - 1 := by
 intro k
 induction k with
 | zero => show 0 = _; omega
 | succ k ih =>
  rw [countK_succ, ih]
  by_cases h : i < k
  ·rw [if_pos (by simpa using h)]; omega
  rw [if_neg (by simpa using h)]; omega
theorem count_all : ∀ k, countK (fun _ => true) k = k := by
 intro k
 induction k with
 | zero => rfl
 | succ k ih => rw [countK_succ, ih, if_pos rfl]
def firstL (all : List (List Pl)) (set : List Int) (k : Nat) : List Pl :=
 (List.range k).foldl (fun out i =>
  match ((onlyL all set out).getD i []).find? fun a => (fewestL ((onlyL all set (out ++ [a])).drop (i + 1))).isNone with
  | some a => out ++ [a]
  | none => out) []
theorem planK_succ (o : List (List Pl)) (set : List Int) (k : Nat) : planK o set (k + 1) = match (o.getD k []).find? fun a => hasN set a.1 && !(planK o set k).contains a && decide (giveR o (fun p => hasN set p.1) (fun j => decide (k < j)) (planK o set k ++ [a]) = o.length - k - 1) with
  | some a => planK o set k ++ [a]
  | none => planK o set k := by
 unfold planK; rw [List.range_succ, List.foldl_append]; rfl
theorem firstL_succ (all : List (List Pl)) (set : List Int) (k : Nat) : firstL all set (k + 1) = match ((onlyL all set (firstL all set k)).getD k []).find? fun a => (fewestL ((onlyL all set (firstL all set k ++ [a])).drop (k + 1))).isNone with
  | some a => firstL all set k ++ [a]
  | none => firstL all set k := by
 unfold firstL; rw [List.range_succ, List.foldl_append]; rfl
theorem find_filter (p q : Pl → Bool) (l : List Pl) : (l.filter p).find? q = l.find? fun a => p a && q a := by
 induction l with
 | nil => rfl
 | cons a l ih =>
  by_cases h : p a = true
  ·rw [List.filter_cons_of_pos h, List.find?_cons, List.find?_cons, ih, h, Bool.true_and]
  rw [List.filter_cons_of_neg h, List.find?_cons, ih]
  have : p a = false := by simpa using h
  rw [this, Bool.false_and]
section
variable {o : List (List Pl)} {univ : List Pl} {L : Nat} {set : List Int}
theorem pick_iff (hu : ∀ j, (o.getD j []).length ≤ L ∧ ∀ a ∈ o.getD j [], a ∈ univ) (hF : L + univ.length * (L + 1) ≤ seekF) (i : Nat) (plan : List Pl) :
  giveR o (fun p => hasN set p.1) (fun j => decide (i < j)) plan = o.length - i - 1 ↔ CanP o (fun p => hasN set p.1) (fun j => decide (i < j)) plan o.length := by
 rw [← can_iff hu hF, count_from]
theorem pick_same (hu : ∀ j, (o.getD j []).length ≤ L ∧ ∀ a ∈ o.getD j [], a ∈ univ) (hF : L + univ.length * (L + 1) ≤ seekF) {i : Nat} (hi : i < o.length) (plan : List Pl) :
  (fewestL ((onlyL o set plan).drop (i + 1))).isNone = decide (giveR o (fun p => hasN set p.1) (fun j => decide (i < j)) plan = o.length - i - 1) := by
 rw [Bool.eq_iff_iff, Option.isNone_iff_eq_none, decide_eq_true_eq, pick_iff hu hF, fewest_iff (drop_hu (only_hu hu set plan) (i + 1)) hF, can_only (by omega)]
 exact ⟨can_congr fun j _ => by rw [decide_eq_decide]; omega, can_congr fun j _ => by rw [decide_eq_decide]; omega⟩
theorem plan_first (hu : ∀ j, (o.getD j []).length ≤ L ∧ ∀ a ∈ o.getD j [], a ∈ univ) (hF : L + univ.length * (L + 1) ≤ seekF) : ∀ k, k ≤ o.length → planK o set k = firstL o set k := by
 intro k
 induction k with
 | zero => intro _; rfl
 | succ k ih =>
  intro hk
  rw [planK_succ, firstL_succ, ih (by omega), only_get, find_filter]
  have : (fun a : Pl => hasN set a.1 && !(firstL o set k).contains a && (fewestL ((onlyL o set (firstL o set k ++ [a])).drop (k + 1))).isNone) = fun a => hasN set a.1 && !(firstL o set k).contains a && decide (giveR o (fun p => hasN set p.1) (fun j => decide (k < j)) (firstL o set k ++ [a]) = o.length - k - 1) := by
   funext a; rw [pick_same hu hF (show k < o.length by omega)]
  rw [this]
theorem plan_can (hu : ∀ j, (o.getD j []).length ≤ L ∧ ∀ a ∈ o.getD j [], a ∈ univ) (hF : L + univ.length * (L + 1) ≤ seekF) (h : CanP o (fun p => hasN set p.1) (fun _ => true) [] o.length) : ∀ k, k ≤ o.length →
  (planK o set k).length = k ∧ CanP o (fun p => hasN set p.1) (fun j => decide (k ≤ j)) (planK o set k) o.length ∧ (planK o set k).Nodup ∧ ∀ i a, (planK o set k)[i]? = some a → a ∈ o.getD i [] ∧ hasN set a.1 = true := by
 intro k
 induction k with
 | zero => intro _; exact ⟨rfl, can_congr (fun j _ => by simp) h, List.nodup_nil, fun i a hi => by simp [planK] at hi⟩
 | succ k ih =>
  intro hk
  obtain ⟨h1, ⟨M, m1, m2⟩, h3, h4⟩ := ih (by omega)
  have hstep : planK o set (k + 1) = match (o.getD k []).find? fun a => hasN set a.1 && !(planK o set k).contains a && decide (giveR o (fun p => hasN set p.1) (fun j => decide (k < j)) (planK o set k ++ [a]) = o.length - k - 1) with
    | some a => planK o set k ++ [a]
    | none => planK o set k := planK_succ o set k
  obtain ⟨q1, q2, q3⟩ := m1 k (by omega) (by simp)
  have hM : CanP o (fun p => hasN set p.1) (fun j => decide (k < j)) (planK o set k ++ [M k]) o.length := by
   refine ⟨M, fun j hj hd => ?_, fun i j hi hj d1 d2 e => m2 i j hi hj (by simp at d1 ⊢; omega) (by simp at d2 ⊢; omega) e⟩
   have hd : k < j := by simpa using hd
   obtain ⟨w1, w2, w3⟩ := m1 j hj (by simp; omega)
   refine ⟨w1, w2, fun hm => ?_⟩
   rcases List.mem_append.1 hm with hm | hm
   ·exact w3 hm
   have := m2 j k hj (by omega) (by simp; omega) (by simp) (List.mem_singleton.1 hm)
   omega
  cases hf : (o.getD k []).find? fun a => hasN set a.1 && !(planK o set k).contains a && decide (giveR o (fun p => hasN set p.1) (fun j => decide (k < j)) (planK o set k ++ [a]) = o.length - k - 1) with
  | none =>
   rw [List.find?_eq_none] at hf
   have := hf (M k) q1
   rw [(pick_iff hu hF k _).2 hM] at this
   have q2' : hasN set (M k).1 = true := q2
   simp [q2', q3] at this
  | some a =>
   rw [hf] at hstep
   dsimp only at hstep
   have hp := List.find?_some hf
   have hm := List.mem_of_find?_eq_some hf
   simp only [Bool.and_eq_true, Bool.not_eq_true', List.contains_eq_mem, decide_eq_false_iff_not, decide_eq_true_eq] at hp
   obtain ⟨⟨p1, p2⟩, p3⟩ := hp
   rw [hstep]
   refine ⟨by rw [List.length_append, h1]; rfl, can_congr (fun j _ => by rw [decide_eq_decide]; omega) ((pick_iff hu hF k _).1 p3), ?_, fun i b hi => ?_⟩
   ·rw [List.nodup_append]
    refine ⟨h3, by simp, fun x hx y hy e => ?_⟩
    rw [List.mem_singleton] at hy
    rw [e, hy] at hx
    exact p2 hx
   by_cases hik : i < k
   ·rw [List.getElem?_append_left (by omega)] at hi
    exact h4 i b hi
   rw [List.getElem?_append_right (by omega), h1] at hi
   have : i = k := by
    have := (List.getElem?_eq_some_iff.1 hi).1
    simp at this; omega
   subst this
   rw [Nat.sub_self] at hi
   simp at hi
   subst hi
   exact ⟨hm, p1⟩
end
section
variable {o : List (List Pl)} {univ : List Pl} {L : Nat}
theorem some_succ (o : List (List Pl)) (k : Nat) : someK o (k + 1) = if giveR o (fun _ => true) (fun j => hasN (someK o k) j || decide (j = k)) [] = (someK o k).length + 1 then someK o k ++ [(k : Int)] else someK o k := by
 unfold someK; rw [List.range_succ, List.foldl_append]; rfl
theorem has_snoc (G : List Int) (k j : Nat) : hasN (G ++ [(k : Int)]) j = (hasN G j || decide (j = k)) := by
 unfold hasN
 rw [Bool.eq_iff_iff]
 simp only [decide_eq_true_eq, Bool.or_eq_true, List.mem_append, List.mem_singleton]
 constructor
 ·rintro (h | h)
  ·exact .inl h
  exact .inr (by omega)
 rintro (h | h)
 ·exact .inl h
 exact .inr (by omega)
end
open Go.RowKit Go.Shelf
def univ8 : List Pl := (List.range 4).flatMap fun m => (List.range 8).map fun c => (m, c)
theorem univ8_len : univ8.length = 32 := by decide +kernel
theorem univ8_bd : ∀ a ∈ univ8, a.1 < 4 ∧ a.2 < 8 := by decide +kernel
theorem univ8_mem {a : Pl} (h1 : a.1 < 4) (h2 : a.2 < 8) : a ∈ univ8 := by
 unfold univ8
 rw [List.mem_flatMap]
 exact ⟨a.1, List.mem_range.2 h1, List.mem_map.2 ⟨a.2, List.mem_range.2 h2, rfl⟩⟩
theorem fit_mem {s : Shop} {l : List SeenC} {a z : Int} (hok : OkS s) (hk : known7 s l ≠ []) : (fit7 s l a z).length ≤ 32 ∧ ∀ x ∈ fit7 s l a z, x ∈ univ8 := by
 constructor
 ·obtain ⟨m1, hm1⟩ : ∃ m, s.moulds.length = m + 1 := ⟨s.moulds.length - 1, by have := hok.nm; omega⟩
  have hlt : m1 < s.moulds.length := by omega
  have h2 := fitU_len (l := l) (a := a) (z := z) hok m1 (castsN s m1) hlt (Nat.le_refl _)
  have h3 := (castsN_bd hok hlt).2.1
  have h4 := hok.nm.2
  rw [← fitU_all (a := a) (z := z) hok hk, hm1, ← fitU_next]
  omega
 intro x hx
 unfold fit7 at hx
 have hx := (List.mem_filter.1 hx).1
 unfold placesL at hx
 rw [List.mem_flatMap] at hx
 obtain ⟨m, hm, hx⟩ := hx
 rw [List.mem_map] at hx
 obtain ⟨c, hc, rfl⟩ := hx
 have hm := List.mem_range.1 hm
 have hc := List.mem_range.1 hc
 have h3 := (castsN_bd hok hm).2.1
 have h4 := hok.nm.2
 unfold castsN at h3
 exact univ8_mem (by dsimp only; omega) (by dsimp only; omega)
theorem all_hu {s : Shop} {l : List SeenC} {p : List (Int × Int)} (hok : OkS s) (hk : known7 s l ≠ []) (j : Nat) : ((allL s l p).getD j []).length ≤ 32 ∧ ∀ a ∈ (allL s l p).getD j [], a ∈ univ8 := by
 unfold allL
 rw [List.getD_eq_getElem?_getD, List.getElem?_map]
 cases p[j]? with
 | none => exact ⟨Nat.zero_le _, fun a h => by cases h⟩
 | some x => exact fit_mem hok hk
theorem mask_bits : ∀ s : Nat, s < 256 → ∀ i : Nat, i < 8 → bits BinOp.and .i64 ((s : Int) / 2 ^ i) 1 = if hasN (bitL s) i then 1 else 0 := by decide +kernel
theorem ones_bits : ∀ i : Nat, i < 4 → bits BinOp.and .i64 ((-1 : Int) / 2 ^ i) 1 = 1 := by decide +kernel
theorem order_zero {s : Shop} {l : List SeenC} {p : List (Int × Int)} (h : orderE s l p = 0) : OkS s ∧ known7 s l ≠ [] ∧ 1 ≤ p.length ∧ p.length ≤ 6 := by
 unfold orderE at h
 by_cases he : (seen7 s l).2 = 0
 ·rw [if_neg (by simp [he])] at h
  by_cases hp : 1 ≤ p.length ∧ p.length ≤ 6
  ·rw [if_neg (by simpa using hp)] at h
   refine ⟨okS_of (seen7_zero he).1, ?_, hp⟩
   intro hk
   split at h
   ·rename_i k e hf
    rcases firstErr_cases (fun k => rangeE ⟨(p.getD k (0, 0)).1, (p.getD k (0, 0)).2⟩ 0 20000) p.length with ⟨h4, _⟩ | ⟨k', _, h4, h5, _⟩
    ·rw [h4] at hf; cases hf
    rw [h4] at hf; injection hf with hf; injection hf with _ hf; exact h5 (hf.trans h)
   rw [if_pos hk] at h; cases h
  rw [if_pos hp] at h; cases h
 rw [if_pos he] at h; exact absurd h he
def IntsT (B : Nat) (r : List Int × Int) (e : Ending) (w' : World) : Prop := ∃ A c, e = .returned (.tuple #[.slice A r.1.length c, .int .i64 r.2]) ∧ Ints (fun k => B ≤ k) w' A r.1.length r.1
theorem IntsT.nil {B : Nat} {e : Int} {w' : World} : IntsT B ([], e) (.returned (.tuple #[.slice none 0 0, .int .i64 e])) w' := ⟨none, 0, rfl, rfl, Nat.zero_le _, fun k x hx => by simp at hx⟩
theorem find_at {α : Type} {q : α → Bool} {x : α} : ∀ {L : List α} {k : Nat}, (∀ y ∈ L.take k, q y = false) → L[k]? = some x → q x = true → L.find? q = some x
 | [], k, _, h, _ => by simp at h
 | a :: L, 0, _, h, hq => by simp at h; subst h; rw [List.find?_cons, hq]
 | a :: L, k + 1, h0, h, hq => by
  rw [List.take_succ_cons] at h0
  rw [List.find?_cons, h0 a List.mem_cons_self]
  exact find_at (fun y hy => h0 y (List.mem_cons_of_mem _ hy)) (by simpa using h) hq
theorem find_none {α : Type} {q : α → Bool} {L : List α} {k : Nat} (h : ∀ y ∈ L.take k, q y = false) (hk : L.length ≤ k) : L.find? q = none := by
 rw [List.take_of_length_le hk] at h
 rw [List.find?_eq_none]
 intro x hx hq
 rw [h x hx] at hq; cases hq
theorem kgive_set {o : List (List Pl)} {n c : Nat} {A : Option Addr} (hu : ∀ j, (o.getD j []).length ≤ 32 ∧ ∀ a ∈ o.getD j [], a ∈ univ8) (hN : o.length ≤ 6) (s : Nat) (hs : s < 256) (is : Nat → Bool) (his : ∀ i, i < 8 → hasN (bitL s) i = is i) (w : World) (g : Ords (fun _ => True) w A n o) :
  Calls Tryz.prog 51 #[.slice A n c, .int .i64 (s : Int), .int .i64 (-1), .slice none 0 0] w fun e w' => e = .returned (.int .i64 (giveR o (fun _ => true) is [] : Nat)) ∧ Below w.heap.size w w' :=
 kgive_any (L := 32) (univ := univ8) (fixed := []) hu univ8_bd (fun a h => by cases h) (by decide) (by rw [univ8_len]; omega) (by omega) hN (fun i => by rw [univ8_len]; have := (hu i).1; unfold seekF; omega)
  (fun a ha => by rw [if_pos rfl]; exact ones_bits a.1 (univ8_bd a ha).1) (fun i hi => by rw [← his i (by omega)]; exact mask_bits s hs i (by omega)) w g (SliceOf.nil _ _ _ _ _)
theorem lacksR_bad {s : Shop} {l : List SeenC} {p : List (Int × Int)} (h : orderE s l p ≠ 0) : lacksR s l p = ([], orderE s l p) := by rw [lacksR, if_pos h]
theorem openR_e {s : Shop} {l : List SeenC} {p : List (Int × Int)} (h : orderE s l p ≠ 0) : openR s l p = ([], orderE s l p) := by rw [openR, if_pos h]
theorem openR_0 {s : Shop} {l : List SeenC} {p : List (Int × Int)} (h : orderE s l p = 0) : openR s l p = (allL s l p, 0) := by rw [openR, if_neg (by simp [h])]
theorem someR_bad {s : Shop} {l : List SeenC} {p : List (Int × Int)} (h : orderE s l p ≠ 0) : someR s l p = ([], orderE s l p) := by rw [someR, if_pos h]
theorem someR_0 {s : Shop} {l : List SeenC} {p : List (Int × Int)} (h : orderE s l p = 0) : someR s l p = (someK (allL s l p) p.length, 0) := by rw [someR, if_neg (by simp [h])]
def lackQ (o : List (List Pl)) (set : List Int) : Bool := decide (giveR o (fun _ => true) (fun i => hasN set i) [] < set.length)
theorem lacksR_some {s : Shop} {l : List SeenC} {p : List (Int × Int)} {set : List Int} (h : orderE s l p = 0) (hf : (setsL p.length).find? (lackQ (allL s l p)) = some set) : lacksR s l p = (set, 0) := by
 rw [lacksR, if_neg (by simp [h])]
 have : (fun set : List Int => decide (giveR (allL s l p) (fun _ => true) (fun i => hasN set i) [] < set.length)) = lackQ (allL s l p) := rfl
 rw [this, hf]
theorem lacksR_none {s : Shop} {l : List SeenC} {p : List (Int × Int)} (h : orderE s l p = 0) (hf : (setsL p.length).find? (lackQ (allL s l p)) = none) : lacksR s l p = ([], 4) := by
 rw [lacksR, if_neg (by simp [h])]
 have : (fun set : List Int => decide (giveR (allL s l p) (fun _ => true) (fun i => hasN set i) [] < set.length)) = lackQ (allL s l p) := rfl
 rw [this, hf]
theorem setsM_lt : ∀ n, n < 7 → ∀ s ∈ setsM n, s < 64 := by decide +kernel
theorem give_le8 (o : List (List Pl)) (ok : Pl → Bool) (is : Nat → Bool) (fixed : List Pl) (h : o.length ≤ 6) : giveR o ok is fixed ≤ 6 := by
 have h1 := give_le o ok is fixed o.length
 have h2 : ∀ k, countK is k ≤ k := fun k => by unfold countK; exact Nat.le_trans (List.length_filter_le _ _) (by simp)
 have := h2 o.length
 unfold giveR
 omega
set_option maxRecDepth 100000 in
set_option maxHeartbeats 4000000 in
theorem klacks_any {Ad C P : Option Addr} {n ca q cc m pc : Nat} {s : Shop} {l : List SeenC} {p : List (Int × Int)} {klo khi : Int} (w : World) (g : Moulds (fun _ => True) w Ad n s.moulds) (gs : SeenCs (fun _ => True) w C q l) (gp : Pairs (fun _ => True) w P m p) (hca : n ≤ ca) (h1 : s.klo = klo) (h2 : s.khi = khi) :
  Calls Tryz.prog 23 #[.agg #[.int .i64 klo, .int .i64 khi, .slice Ad n ca], .slice C q cc, .slice P m pc] w fun e w' => IntsT w.heap.size (lacksR s l p) e w' ∧ Below w.heap.size w w' := by
 obtain ⟨W, hW⟩ : ∃ W, w.alloc (.cells #[.int .i64 klo, .int .i64 khi, .slice Ad n ca] 26) = W := ⟨_, rfl⟩
 have hBW : Below w.heap.size w W := by rw [← hW]; exact bl_alloc (Below.refl _ _) _ (Nat.le_refl _)
 have HO := Lib.hid (kopen_any (ca := ca) (cc := cc) (pc := pc) W (g.keep MouldR.good (Keeps.below hBW)) (gs.keep SeenCR.good (Keeps.below hBW)) (gp.keep PairR.good (Keeps.below hBW)) hca h1 h2)
 have HBW := Lib.hid hBW
 have HML := Lib.hid gp.len
 have HW := Lib.hid hW
 clear g gs gp hBW hW
 go_enter Tryz.func23, Tryz.ntmps23
 go_wp2_with fail
 rw [HW.out]
 refine HO.out.mono ?_
 rintro e W1 ⟨⟨A, c, rfl, hA⟩, b1⟩
 have B1 : Hid (Below w.heap.size w W1) := HBW.out.trans (b1.mono HBW.out.size)
 clear b1
 by_cases he : orderE s l p = 0
 ·obtain ⟨hok, hk, hp1, hp6⟩ := order_zero he
  rw [openR_0 he] at hA ⊢
  dsimp only at hA ⊢
  obtain ⟨o, ho⟩ : ∃ o, allL s l p = o := ⟨_, rfl⟩
  have HU : Hid (∀ j, (o.getD j []).length ≤ 32 ∧ ∀ a ∈ o.getD j [], a ∈ univ8) := by rw [← ho]; exact all_hu hok hk
  have hol : o.length = m := by rw [← ho]; unfold allL; rw [List.length_map]; exact HML.out
  have hm6 : m ≤ 6 := by have := HML.out; omega
  have HLS : Hid (∀ set, (setsL m).find? (lackQ o) = some set → lacksR s l p = (set, 0)) := fun set hf => lacksR_some he (by rw [HML.out, ho]; exact hf)
  have HLN : Hid ((setsL m).find? (lackQ o) = none → lacksR s l p = ([], 4)) := fun hf => lacksR_none he (by rw [HML.out, ho]; exact hf)
  rw [ho, hol] at hA
  rw [ho, hol]
  have HA : Hid (Ords (fun _ => True) W1 A m o) := hA.mono OrdR.good (fun _ _ => trivial)
  have HOL := Lib.hid hol
  clear he hok hk hp1 hp6 ho hA hol
  go_wp2_with fail
  refine (ksets_any m hm6 W1).mono ?_
  rintro e W2 ⟨⟨A2, c2, rfl, hI⟩, b2⟩
  obtain ⟨ls, hls⟩ : ∃ ls, (setsM m).length = ls := ⟨_, rfl⟩
  rw [hls] at hI ⊢
  have HI := Lib.hid hI
  have HLSS := Lib.hid hls
  have B2 : Hid (Below W1.heap.size W1 W2) := b2
  have hls64 := hI.le
  clear hI b2 hls
  go_wp2_with fail
  go_loopw [11, 26] (fun _ i' wr => ∃ k : Nat, i' = .int .i64 k ∧ k ≤ ls ∧ Hid (∀ y ∈ (setsL m).take k, lackQ o y = false) ∧ Hid (Below W2.heap.size W2 wr)) (fun _ i' _ => ls - (intOf i').toNat)
  case atStart => exact ⟨0, rfl, Nat.zero_le _, by rw [Hid, List.take_zero]; exact (fun y hy => by cases hy), Below.refl _ _⟩
  case round =>
   obtain ⟨k, rfl, hk, HT, HB⟩ := hrel
   have HBA : Hid (Below W1.heap.size W1 wr) := B2.out.trans (HB.out.mono B2.out.size)
   have HBw : Hid (Below w.heap.size w wr) := B1.out.trans (HBA.out.mono B1.out.size)
   by_cases hlt : k < ls
   ·have hki : (k : Int) < ls := by omega
    obtain ⟨b3, off3, x, rfl, hd3, Hx⟩ := Ints.get (HI.out.keep IntR.good (Keeps.below HB.out)) hlt
    obtain ⟨sv, hsv, rfl⟩ : ∃ sv : Nat, (setsM m)[k]? = some sv ∧ x = (sv : Int) := by
     have h := Hx.out
     have hkl : k < (setsM m).length := by rw [HLSS.out]; exact hlt
     rw [List.getElem?_map, List.getElem?_eq_getElem hkl] at h
     exact ⟨_, List.getElem?_eq_getElem hkl, by simpa using h.symm⟩
    have hs64 := setsM_lt m (by omega) sv (List.mem_of_getElem? hsv)
    have HSET : Hid ((setsL m)[k]? = some (bitL sv)) := by rw [Hid, ← setsM_bits m (by omega), List.getElem?_map, hsv]; rfl
    obtain ⟨gv, hgv⟩ : ∃ gv, giveR o (fun _ => true) (fun i => hasN (bitL sv) i) [] = gv := ⟨_, rfl⟩
    have hgv6 : gv ≤ 6 := by rw [← hgv]; exact give_le8 _ _ _ _ (by rw [HOL.out]; exact hm6)
    have HGV := Lib.hid hgv
    have hbl := bitL_len sv (by omega)
    obtain ⟨bl, hbl2⟩ : ∃ bl, (bitL sv).length = bl := ⟨_, rfl⟩
    have HBL := Lib.hid hbl2
    rw [hbl2] at hbl
    have HONE : Hid (∀ V, Calls Tryz.prog 54 #[.int .u64 (sv : Int)] V fun e w' => e = .returned (.int .i64 (bl : Int)) ∧ V = w') := fun V => by have := ones_any sv (by omega) V; rw [hbl2] at this; exact this
    clear hsv hgv hbl2
    go_wp2_with fail
    refine (kgive_set HU.out (by rw [HOL.out]; exact hm6) sv (by omega) (fun i => hasN (bitL sv) i) (fun i hi => rfl) wr (HA.out.keep OrdR.good (Keeps.below HBA.out))).mono ?_
    rintro e W3 ⟨rfl, b3⟩
    rw [HGV.out]
    have HB3 : Hid (Below W2.heap.size W2 W3) := bl_call HB.out b3 (Nat.le_refl _)
    have HB3w : Hid (Below w.heap.size w W3) := bl_call HBw.out b3 (Nat.le_refl _)
    clear b3 hd3
    go_wp2_with fail
    refine (HONE.out _).mono ?_
    rintro e W4 ⟨rfl, rfl⟩
    by_cases hgl : gv < bl
    ·have HR : Hid (lacksR s l p = (bitL sv, 0)) := HLS.out _ (find_at HT.out HSET.out (by unfold lackQ; rw [HGV.out, HBL.out]; exact decide_eq_true hgl))
     have hgi : (gv : Int) < bl := by omega
     go_wp2_with fail
     refine (klist_any sv W3 (by omega)).mono ?_
     rintro e W4 ⟨⟨A4, c4, rfl, i4⟩, g4⟩
     have HE : Hid (Below w.heap.size w W4) := bl_call HB3w.out g4.2 (Nat.le_refl _)
     have HI4 : Hid (Ints (fun k => w.heap.size ≤ k) W4 A4 (bitL sv).length (bitL sv)) := i4.mono IntR.good (fun k h => Nat.le_trans HB3w.out.size h)
     clear i4 g4
     go_wp2_with fail
     go_ret2
     exact ⟨by rw [HR.out]; exact ⟨A4, c4, rfl, HI4.out⟩, HE.out⟩
    have hgi : ¬ (gv : Int) < bl := by omega
    have HT2 : Hid (∀ y ∈ (setsL m).take (k + 1), lackQ o y = false) := by
     rw [Hid, take_snoc_get HSET.out]
     intro y hy
     rcases List.mem_append.1 hy with hy | hy
     ·exact HT.out y hy
     simp at hy; rw [hy]; unfold lackQ; rw [HGV.out, HBL.out]; exact decide_eq_false hgl
    go_wp2_with fail
    go_roundw
    case rel => exact ⟨k + 1, by go_num, by omega, HT2, HB3⟩
    case measure => simp [intOf]; omega
   obtain rfl : k = ls := by omega
   have hki : ¬ (k : Int) < k := by omega
   have HR : Hid (lacksR s l p = ([], 4)) := HLN.out (find_none HT.out (by rw [← setsM_bits m (by omega), List.length_map, HLSS.out]; exact Nat.le_refl _))
   go_wp2_with fail
   go_ret2
   exact ⟨by rw [HR.out]; exact IntsT.nil, HBw.out⟩
 have HR := Lib.hid (lacksR_bad he)
 rw [openR_e he]
 obtain ⟨oe, hoe⟩ : ∃ oe, orderE s l p = oe := ⟨_, rfl⟩
 rw [hoe] at he
 have hob : (oe != 0) = true := by simpa using he
 have HR2 : Hid (lacksR s l p = ([], oe)) := by rw [Hid, HR.out, hoe]
 rw [hoe]
 clear hA HR hoe he
 go_wp2_with fail
 go_ret2
 exact ⟨by rw [HR2.out]; exact IntsT.nil, B1.out⟩
end Go.Proofs.YtdbfincinjoppabGreatDoor
