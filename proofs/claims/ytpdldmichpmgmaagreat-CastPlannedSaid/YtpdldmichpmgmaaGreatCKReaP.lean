/- Layer 7, plain: what a further cast that is seen does to the truths, and that the ends of Sizes and the numbers of Shrinks are reached. Nothing of a program is stepped through here. -/
import Derived.Test.YtpdldmichpmgmaaGreatCKOuts
set_option linter.unusedVariables false
set_option linter.unusedSimpArgs false
set_option linter.all false
namespace Go.Proofs.YtpdldmichpmgmaaGreat

/-- a cast that is seen, at one size alone -/
def oneC (m c : Nat) (n : Int) : SeenC := ⟨(m : Int), (c : Int), n, n⟩
theorem further_ok7 {s : Shop} {l : List SeenC} {m c : Nat} {n : Int} (e : (seen7 s l).2 = 0) (hl : l.length < 6) (hm : m < s.moulds.length) (hc : c < castsN s m) (h0 : 0 ≤ n) (h1 : n ≤ 20000) : (seen7 s (l ++ [oneC m c n])).2 = 0 := by
  obtain ⟨h2, _, h3⟩ := seen7_zero e
  have hk := okS_of h2
  have hcs := castsN_bd hk hm
  rw [seen7_ok h2 (by rw [List.length_append, List.length_singleton]; omega) fun k hk2 => ?_]
  rw [List.length_append, List.length_singleton] at hk2
  by_cases hj : k < l.length
  · have := h3 k hj
    unfold seenE7 at this ⊢
    rw [List.getD_eq_getElem?_getD, List.getElem?_append_left hj, ← List.getD_eq_getElem?_getD]
    exact this
  · obtain rfl : k = l.length := by omega
    refine seenE_of (y := oneC m c n) (by simp) ⟨by simp [oneC], by simp [oneC]; omega⟩ ⟨by simp [oneC], ?_⟩ ⟨h0, by simp [oneC], h1⟩
    simp only [oneC, Int.toNat_natCast]
    omega
theorem further_two {s : Shop} {l : List SeenC} {m c j : Nat} {k n : Int} {p : Int × Int} (hk : OkS s) (hj : j < s.moulds.length) : p ∈ twosC s (l ++ [oneC m c n]) j k ↔ p ∈ twosC s l j k ∧ (m = j → made7 p.1 p.2 c k = n) := by
  rw [twos_mem hk hj, twos_mem hk hj, twoOk_iff, twoOk_iff]
  constructor
  · rintro ⟨h1, h2⟩
    refine ⟨⟨h1, fun y hy => h2 y (List.mem_append_left _ hy)⟩, fun e => ?_⟩
    have := h2 (oneC m c n) (List.mem_append_right _ (List.mem_singleton.2 rfl)) (by rw [e]; rfl)
    simp only [oneC] at this
    omega
  · rintro ⟨⟨h1, h2⟩, h3⟩
    refine ⟨h1, fun y hy e => ?_⟩
    rcases List.mem_append.1 hy with hy | hy
    · exact h2 y hy e
    · rw [List.mem_singleton] at hy
      subst hy
      simp only [oneC] at e ⊢
      have := h3 (by omega)
      omega
theorem further_known {s : Shop} {l : List SeenC} {m c : Nat} {k n : Int} (hk : OkS s) (hm : m < s.moulds.length) : k ∈ known7 s (l ++ [oneC m c n]) ↔ k ∈ known7 s l ∧ ∃ p ∈ twosC s l m k, made7 p.1 p.2 c k = n := by
  rw [known_iff, known_iff]
  constructor
  · rintro ⟨h1, h2⟩
    refine ⟨⟨h1, fun j hj => ?_⟩, ?_⟩
    · obtain ⟨p, hp⟩ := h2 j hj
      exact ⟨p, ((further_two hk hj).1 hp).1⟩
    · obtain ⟨p, hp⟩ := h2 m hm
      obtain ⟨h3, h4⟩ := (further_two hk hm).1 hp
      exact ⟨p, h3, h4 rfl⟩
  · rintro ⟨⟨h1, h2⟩, p, hp, hn⟩
    refine ⟨h1, fun j hj => ?_⟩
    by_cases e : m = j
    · subst e
      exact ⟨p, (further_two hk hj).2 ⟨hp, fun _ => hn⟩⟩
    · obtain ⟨q, hq⟩ := h2 j hj
      exact ⟨q, (further_two hk hj).2 ⟨hq, fun h => absurd h e⟩⟩
theorem further_made {s : Shop} {l : List SeenC} {m c : Nat} {x n : Int} (hk : OkS s) (hm : m < s.moulds.length) (h : x ∈ madeL s (l ++ [oneC m c n]) m c) : x = n := by
  obtain ⟨k, _, p, hp, rfl⟩ := made_mem.1 h
  exact ((further_two hk hm).1 hp).2 rfl
theorem further_ne {s : Shop} {l : List SeenC} {m c : Nat} {n : Int} (hk : OkS s) (hm : m < s.moulds.length) : known7 s (l ++ [oneC m c n]) ≠ [] ↔ n ∈ madeL s l m c := by
  rw [made_mem]
  constructor
  · intro h
    obtain ⟨k, h1⟩ := List.exists_mem_of_ne_nil _ h
    obtain ⟨h2, h3⟩ := (further_known hk hm).1 h1
    exact ⟨k, h2, h3⟩
  · rintro ⟨k, h2, h3⟩
    exact List.ne_nil_of_mem ((further_known hk hm).2 ⟨h2, h3⟩)
/-- with a further cast of a size that it can have there still is a truth, and Sizes says this size -/
theorem reach_in {s : Shop} {l : List SeenC} {m c : Nat} {n : Int} (e : (seen7 s l).2 = 0) (hl : l.length < 6) (hm : m < s.moulds.length) (hc : c < castsN s m) (h0 : 0 ≤ n) (h1 : n ≤ 20000) (h : n ∈ madeL s l m c) : sizesR s (l ++ [oneC m c n]) m c = ((n, n), 0) := by
  have hk := okS_of (seen7_zero e).1
  have hne := (further_ne hk hm).2 h
  rw [sizesR_in (further_ok7 e hl hm hc h0 h1) hk hm hc hne]
  obtain ⟨h2, h3, _⟩ := size_at (c := (c : Int)) hm hne
  have a1 := further_made hk hm h2
  have a2 := further_made hk hm h3
  exact Prod.ext (Prod.ext a1 a2) rfl
/-- with one that it cannot have there is none -/
theorem reach_out {s : Shop} {l : List SeenC} {m c : Nat} {n : Int} (e : (seen7 s l).2 = 0) (hl : l.length < 6) (hm : m < s.moulds.length) (hc : c < castsN s m) (h0 : 0 ≤ n) (h1 : n ≤ 20000) (h : n ∉ madeL s l m c) : sizesR s (l ++ [oneC m c n]) m c = ((0, 0), 9) := by
  have hk := okS_of (seen7_zero e).1
  have hcs := castsN_bd hk hm
  have hne : known7 s (l ++ [oneC m c n]) = [] := by
    by_cases h2 : known7 s (l ++ [oneC m c n]) = []
    · exact h2
    · exact absurd ((further_ne hk hm).1 h2) h
  have ht : there7 s (m : Int) (c : Int) = true := by
    unfold there7
    simp only [inB, Bool.and_eq_true, decide_eq_true_eq, Int.toNat_natCast]
    omega
  rw [sizesR_n (further_ok7 e hl hm hc h0 h1), ht, if_neg (by simp), if_pos hne]
/-- the four sizes that the law tries -/
def fourN (a : Int × Int) (d : Int) (i : Nat) : Int := if i = 0 then a.1 else if i = 1 then a.2 else if i = 2 then a.1 - d else a.2 + d
theorem reach_four {s : Shop} {l : List SeenC} {m c : Nat} {d : Int} {i : Nat} (e : (seen7 s l).2 = 0) (hl : l.length < 6) (hm : m < s.moulds.length) (hc : c < castsN s m) (hne : known7 s l ≠ []) (hd : 0 < d) (h0 : 0 ≤ fourN (size7 s l m c) d i) (h1 : fourN (size7 s l m c) d i ≤ 20000) :
    sizesR s (l ++ [oneC m c (fourN (size7 s l m c) d i)]) m c = if i < 2 then ((fourN (size7 s l m c) d i, fourN (size7 s l m c) d i), 0) else ((0, 0), 9) := by
  obtain ⟨h2, h3, h4⟩ := size_at (c := (c : Int)) hm hne
  by_cases hi : i < 2
  · rw [if_pos hi]
    refine reach_in e hl hm hc h0 h1 ?_
    unfold fourN
    by_cases e0 : i = 0
    · rw [if_pos e0]; exact h2
    · rw [if_neg e0, if_pos (by omega)]; exact h3
  · rw [if_neg hi]
    refine reach_out e hl hm hc h0 h1 fun h => ?_
    have := h4 _ h
    unfold fourN at this
    rw [if_neg (by omega), if_neg (by omega)] at this
    by_cases e2 : i = 2
    · rw [if_pos e2] at this; omega
    · rw [if_neg e2] at this; omega
/-- a shop with one number of Shrink alone -/
def just7 (s : Shop) (k : Int) : Shop := ⟨k, k, s.moulds⟩
theorem just_check {s : Shop} {k : Int} (h : (check7 s).2.2 = 0) (h1 : s.klo ≤ k) (h2 : k ≤ s.khi) : (check7 (just7 s k)).2.2 = 0 := by
  have hk := (okS_of h).shrink
  unfold check7 at h ⊢
  unfold just7
  dsimp only at h ⊢
  rw [if_neg (by simp [inB]; omega), if_neg (by simp [inB]; omega)]
  split at h
  · simp at h
  · split at h
    · simp at h
    · exact h
theorem reach_k {s : Shop} {l : List SeenC} {k : Int} (e : (seen7 s l).2 = 0) (h : k ∈ known7 s l) : shrinksR (just7 s k) l = ([k], 0) := by
  obtain ⟨h1, h2, h3⟩ := seen7_zero e
  obtain ⟨⟨h4, h5⟩, h6⟩ := known_iff.1 h
  have hs : seen7 (just7 s k) l = (0, 0) := seen7_ok (just_check h1 h4 h5) h2 fun j hj => h3 j hj
  have hm : ∀ x, x ∈ known7 (just7 s k) l ↔ x = k := by
    intro x
    rw [known_iff]
    constructor
    · rintro ⟨⟨a, b⟩, _⟩
      simp only [just7] at a b
      omega
    · rintro rfl
      exact ⟨⟨Int.le_refl _, Int.le_refl _⟩, fun m hm => h6 m hm⟩
  have hp := known_asc (just7 s k) l
  have hK : known7 (just7 s k) l = [k] := by
    generalize known7 (just7 s k) l = L at *
    match L, hm, hp with
    | [], hm, _ => exact absurd ((hm k).2 rfl) (by simp)
    | [x], hm, _ => rw [(hm x).1 (by simp)]
    | x :: y :: L, hm, hp =>
      have a := (hm x).1 (by simp)
      have b := (hm y).1 (by simp)
      have := (List.pairwise_cons.1 hp).1 y (by simp)
      omega
  unfold shrinksR
  rw [hs, if_neg (by simp), hK, if_neg (by simp)]
theorem sizesR_none {s : Shop} {l : List SeenC} {m c : Nat} (e : (seen7 s l).2 = 0) (hm : m < s.moulds.length) (hc : c < castsN s m) (h : known7 s l = []) : sizesR s l m c = ((0, 0), 9) := by
  have hcs := castsN_bd (okS_of (seen7_zero e).1) hm
  have ht : there7 s (m : Int) (c : Int) = true := by
    unfold there7
    simp only [inB, Bool.and_eq_true, decide_eq_true_eq, Int.toNat_natCast]
    omega
  rw [sizesR_n e, ht, if_neg (by simp), if_pos h]
/-- the size of a cast lies in the range of an int -/
theorem size_small {s : Shop} {l : List SeenC} {m c : Nat} (hk : OkS s) (hm : m < s.moulds.length) (hc : c < castsN s m) (hne : known7 s l ≠ []) : (0 ≤ (size7 s l m c).1 ∧ (size7 s l m c).1 ≤ 20160) ∧ 0 ≤ (size7 s l m c).2 ∧ (size7 s l m c).2 ≤ 20160 := by
  have hcs := castsN_bd hk hm
  obtain ⟨h1, h2, _⟩ := size_at (c := (c : Int)) hm hne
  have go : ∀ x ∈ madeL s l m c, 0 ≤ x ∧ x ≤ 20160 := by
    intro x hx
    obtain ⟨k, hkk, p, hp, rfl⟩ := made_mem.1 hx
    have hb := twos7_bd hk hm hp
    have hkb := shrinkL_bd hk (known7_mem hkk).1
    have := made7_bd (a := p.1) (w := p.2) (k := k) (c := (c : Int)) hb.1 hb.2 (by omega) (by omega)
    have := this.2.2.2.2
    omega
  exact ⟨go _ h1, go _ h2⟩
theorem known_pair {s : Shop} {l : List SeenC} {K : List Int} (h : known7 s l = K) {i : Nat} {x y : Int} (hx : K[i + 1]? = some x) (hy : K[i]? = some y) : y < x := by
  have hp := known_asc s l
  rw [h] at hp
  obtain ⟨h1, rfl⟩ := List.getElem?_eq_some_iff.1 hx
  obtain ⟨h2, rfl⟩ := List.getElem?_eq_some_iff.1 hy
  exact List.pairwise_iff_getElem.1 hp i (i + 1) h2 h1 (by omega)
end Go.Proofs.YtpdldmichpmgmaaGreat
