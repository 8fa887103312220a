/- Layer 7, plain: what a further cast that is seen does to the truths, and that the ends of Sizes and the numbers of Shrinks are reached. Nothing of a program is stepped through here. -/
import Derived.Test.YtpdldmichpmgmaaGreatCCastSomes
import Derived.Test.YtpdldmichpmgmaaGreatCKOuts
set_option linter.unusedVariables false
set_option linter.unusedSimpArgs false
set_option linter.all false
namespace Go.Proofs.YtpdldmichpmgmaaGreat

/-- a cast that is seen, at one size alone -/
def oneC (m c : Nat) (n : Int) : SeenC := ⟨(m : Int), (c : Int), n, n⟩
theorem further_ok7 {s : Shop} {l : List SeenC} {m c : Nat} {n : Int} (e : (seen7 s l).2 = 0) (hl : l.length < 6) (hm : m < s.moulds.length) (hc : c < castsN s m) (h0 : 0 ≤ n) (h1 : n ≤ 20000) : (seen7 s (l ++ [oneC m c n])).2 = 0 := by
  obtain ⟨h2, _, h3⟩ := seen7_zero e
  have hk := okS_of h2
  have hcs := castsN_bd hk hm
  rw [seen7_ok h2 (by rw [List.length_append, List.length_singleton]; omega) fun k hk2 => ?_]
  rw [List.length_append, List.length_singleton] at hk2
  by_cases hj : k < l.length
  · have := h3 k hj
    unfold seenE7 at this ⊢
    rw [List.getD_eq_getElem?_getD, List.getElem?_append_left hj, ← List.getD_eq_getElem?_getD]
    exact this
  · obtain rfl : k = l.length := by omega
    refine seenE_of (y := oneC m c n) (by simp) ⟨by simp [oneC], by simp [oneC]; omega⟩ ⟨by simp [oneC], ?_⟩ ⟨h0, by simp [oneC], h1⟩
    simp only [oneC, Int.toNat_natCast]
    omega
theorem further_two {s : Shop} {l : List SeenC} {m c j : Nat} {k n : Int} {p : Int × Int} (hk : OkS s) (hj : j < s.moulds.length) : p ∈ twosC s (l ++ [oneC m c n]) j k ↔ p ∈ twosC s l j k ∧ (m = j → made7 p.1 p.2 c k = n) := by
  rw [twos_mem hk hj, twos_mem hk hj, twoOk_iff, twoOk_iff]
  constructor
  · rintro ⟨h1, h2⟩
    refine ⟨⟨h1, fun y hy => h2 y (List.mem_append_left _ hy)⟩, fun e => ?_⟩
    have := h2 (oneC m c n) (List.mem_append_right _ (List.mem_singleton.2 rfl)) (by rw [e]; rfl)
    simp only [oneC] at this
    omega
  · rintro ⟨⟨h1, h2⟩, h3⟩
    refine ⟨h1, fun y hy e => ?_⟩
    rcases List.mem_append.1 hy with hy | hy
    · exact h2 y hy e
    · rw [List.mem_singleton] at hy
      subst hy
      simp only [oneC] at e ⊢
      have := h3 (by omega)
      omega
theorem further_known {s : Shop} {l : List SeenC} {m c : Nat} {k n : Int} (hk : OkS s) (hm : m < s.moulds.length) : k ∈ known7 s (l ++ [oneC m c n]) ↔ k ∈ known7 s l ∧ ∃ p ∈ twosC s l m k, made7 p.1 p.2 c k = n := by
  rw [known_iff, known_iff]
  constructor
  · rintro ⟨h1, h2⟩
    refine ⟨⟨h1, fun j hj => ?_⟩, ?_⟩
    · obtain ⟨p, hp⟩ := h2 j hj
      exact ⟨p, ((further_two hk hj).1 hp).1⟩
    · obtain ⟨p, hp⟩ := h2 m hm
      obtain ⟨h3, h4⟩ := (further_two hk hm).1 hp
      exact ⟨p, h3, h4 rfl⟩
  · rintro ⟨⟨h1, h2⟩, p, hp, hn⟩
    refine ⟨h1, fun j hj => ?_⟩
    by_cases e : m = j
    · subst e
      exact ⟨p, (further_two hk hj).2 ⟨hp, fun _ => hn⟩⟩
    · obtain ⟨q, hq⟩ := h2 j hj
      exact ⟨q, (further_two hk hj).2 ⟨hq, fun h => absurd h e⟩⟩
theorem further_made {s : Shop} {l : List SeenC} {m c : Nat} {x n : Int} (hk : OkS s) (hm : m < s.moulds.length) (h : x ∈ madeL s (l ++ [oneC m c n]) m c) : x = n := by
  obtain ⟨k, _, p, hp, rfl⟩ := made_mem.1 h
  exact ((further_two hk hm).1 hp).2 rfl
theorem further_ne {s : Shop} {l : List SeenC} {m c : Nat} {n : Int} (hk : OkS s) (hm : m < s.moulds.length) : known7 s (l ++ [oneC m c n]) ≠ [] ↔ n ∈ madeL s l m c := by
  rw [made_mem]
  constructor
  · intro h
    obtain ⟨k, h1⟩ := List.exists_mem_of_ne_nil _ h
    obtain ⟨h2, h3⟩ := (further_known hk hm).1 h1
    exact ⟨k, h2, h3⟩
  · rintro ⟨k, h2, h3⟩
    exact List.ne_nil_of_mem ((further_known hk hm).2 ⟨h2, h3⟩)
/-- with a further cast of a size that it can have there still is a truth, and Sizes says this size -/
theorem reach_in {s : Shop} {l : List SeenC} {m c : Nat} {n : Int} (e : (seen7 s l).2 = 0) (hl : l.length < 6) (hm : m < s.moulds.length) (hc : c < castsN s m) (h0 : 0 ≤ n) (h1 : n ≤ 20000) (h : n ∈ madeL s l m c) : sizesR s (l ++ [oneC m c n]) m c = ((n, n), 0) := by
  have hk := okS_of (seen7_zero e).1
  have hne := (further_ne hk hm).2 h
  rw [sizesR_in (further_ok7 e hl hm hc h0 h1) hk hm hc hne]
  obtain ⟨h2, h3, _⟩ := size_at (c := (c : Int)) hm hne
  have a1 := further_made hk hm h2
  have a2 := further_made hk hm h3
  exact Prod.ext (Prod.ext a1 a2) rfl
/-- with one that it cannot have there is none -/
theorem reach_out {s : Shop} {l : List SeenC} {m c : Nat} {n : Int} (e : (seen7 s l).2 = 0) (hl : l.length < 6) (hm : m < s.moulds.length) (hc : c < castsN s m) (h0 : 0 ≤ n) (h1 : n ≤ 20000) (h : n ∉ madeL s l m c) : sizesR s (l ++ [oneC m c n]) m c = ((0, 0), 9) := by
  have hk := okS_of (seen7_zero e).1
  have hcs := castsN_bd hk hm
  have hne : known7 s (l ++ [oneC m c n]) = [] := by
    by_cases h2 : known7 s (l ++ [oneC m c n]) = []
    · exact h2
    · exact absurd ((further_ne hk hm).1 h2) h
  have ht : there7 s (m : Int) (c : Int) = true := by
    unfold there7
    simp only [inB, Bool.and_eq_true, decide_eq_true_eq, Int.toNat_natCast]
    omega
  rw [sizesR_n (further_ok7 e hl hm hc h0 h1), ht, if_neg (by simp), if_pos hne]
/-- the four sizes that the law tries -/
def fourN (a : Int × Int) (d : Int) (i : Nat) : Int := if i = 0 then a.1 else if i = 1 then a.2 else if i = 2 then a.1 - d else a.2 + d
theorem reach_four {s : Shop} {l : List SeenC} {m c : Nat} {d : Int} {i : Nat} (e : (seen7 s l).2 = 0) (hl : l.length < 6) (hm : m < s.moulds.length) (hc : c < castsN s m) (hne : known7 s l ≠ []) (hd : 0 < d) (h0 : 0 ≤ fourN (size7 s l m c) d i) (h1 : fourN (size7 s l m c) d i ≤ 20000) :
    sizesR s (l ++ [oneC m c (fourN (size7 s l m c) d i)]) m c = if i < 2 then ((fourN (size7 s l m c) d i, fourN (size7 s l m c) d i), 0) else ((0, 0), 9) := by
  obtain ⟨h2, h3, h4⟩ := size_at (c := (c : Int)) hm hne
  by_cases hi : i < 2
  · rw [if_pos hi]
    refine reach_in e hl hm hc h0 h1 ?_
    unfold fourN
    by_cases e0 : i = 0
    · rw [if_pos e0]; exact h2
    · rw [if_neg e0, if_pos (by omega)]; exact h3
  · rw [if_neg hi]
    refine reach_out e hl hm hc h0 h1 fun h => ?_
    have := h4 _ h
    unfold fourN at this
    rw [if_neg (by omega), if_neg (by omega)] at this
    by_cases e2 : i = 2
    · rw [if_pos e2] at this; omega
    · rw [if_neg e2] at this; omega
/-- a shop with one number of Shrink alone -/
def just7 (s : Shop) (k : Int) : Shop := ⟨k, k, s.moulds⟩
theorem just_check {s : Shop} {k : Int} (h : (check7 s).2.2 = 0) (h1 : s.klo ≤ k) (h2 : k ≤ s.khi) : (check7 (just7 s k)).2.2 = 0 := by
  have hk := (okS_of h).shrink
  unfold check7 at h ⊢
  unfold just7
  dsimp only at h ⊢
  rw [if_neg (by simp [inB]; omega), if_neg (by simp [inB]; omega)]
  split at h
  · simp at h
  · split at h
    · simp at h
    · exact h
theorem reach_k {s : Shop} {l : List SeenC} {k : Int} (e : (seen7 s l).2 = 0) (h : k ∈ known7 s l) : shrinksR (just7 s k) l = ([k], 0) := by
  obtain ⟨h1, h2, h3⟩ := seen7_zero e
  obtain ⟨⟨h4, h5⟩, h6⟩ := known_iff.1 h
  have hs : seen7 (just7 s k) l = (0, 0) := seen7_ok (just_check h1 h4 h5) h2 fun j hj => h3 j hj
  have hm : ∀ x, x ∈ known7 (just7 s k) l ↔ x = k := by
    intro x
    rw [known_iff]
    constructor
    · rintro ⟨⟨a, b⟩, _⟩
      simp only [just7] at a b
      omega
    · rintro rfl
      exact ⟨⟨Int.le_refl _, Int.le_refl _⟩, fun m hm => h6 m hm⟩
  have hp := known_asc (just7 s k) l
  have hK : known7 (just7 s k) l = [k] := by
    generalize known7 (just7 s k) l = L at *
    match L, hm, hp with
    | [], hm, _ => exact absurd ((hm k).2 rfl) (by simp)
    | [x], hm, _ => rw [(hm x).1 (by simp)]
    | x :: y :: L, hm, hp =>
      have a := (hm x).1 (by simp)
      have b := (hm y).1 (by simp)
      have := (List.pairwise_cons.1 hp).1 y (by simp)
      omega
  unfold shrinksR
  rw [hs, if_neg (by simp), hK, if_neg (by simp)]
theorem sizesR_none {s : Shop} {l : List SeenC} {m c : Nat} (e : (seen7 s l).2 = 0) (hm : m < s.moulds.length) (hc : c < castsN s m) (h : known7 s l = []) : sizesR s l m c = ((0, 0), 9) := by
  have hcs := castsN_bd (okS_of (seen7_zero e).1) hm
  have ht : there7 s (m : Int) (c : Int) = true := by
    unfold there7
    simp only [inB, Bool.and_eq_true, decide_eq_true_eq, Int.toNat_natCast]
    omega
  rw [sizesR_n e, ht, if_neg (by simp), if_pos h]
/-- the size of a cast lies in the range of an int -/
theorem size_small {s : Shop} {l : List SeenC} {m c : Nat} (hk : OkS s) (hm : m < s.moulds.length) (hc : c < castsN s m) (hne : known7 s l ≠ []) : (0 ≤ (size7 s l m c).1 ∧ (size7 s l m c).1 ≤ 20160) ∧ 0 ≤ (size7 s l m c).2 ∧ (size7 s l m c).2 ≤ 20160 := by
  have hcs := castsN_bd hk hm
  obtain ⟨h1, h2, _⟩ := size_at (c := (c : Int)) hm hne
  have go : ∀ x ∈ madeL s l m c, 0 ≤ x ∧ x ≤ 20160 := by
    intro x hx
    obtain ⟨k, hkk, p, hp, rfl⟩ := made_mem.1 hx
    have hb := twos7_bd hk hm hp
    have hkb := shrinkL_bd hk (known7_mem hkk).1
    have := made7_bd (a := p.1) (w := p.2) (k := k) (c := (c : Int)) hb.1 hb.2 (by omega) (by omega)
    have := this.2.2.2.2
    omega
  exact ⟨go _ h1, go _ h2⟩
theorem known_pair {s : Shop} {l : List SeenC} {K : List Int} (h : known7 s l = K) {i : Nat} {x y : Int} (hx : K[i + 1]? = some x) (hy : K[i]? = some y) : y < x := by
  have hp := known_asc s l
  rw [h] at hp
  obtain ⟨h1, rfl⟩ := List.getElem?_eq_some_iff.1 hx
  obtain ⟨h2, rfl⟩ := List.getElem?_eq_some_iff.1 hy
  exact List.pairwise_iff_getElem.1 hp i (i + 1) h2 h1 (by omega)
end Go.Proofs.YtpdldmichpmgmaaGreat

namespace Go.Proofs.YtpdldmichpmgmaaGreat

theorem made7_mono {a w c k : Int} (h1 : 1 ≤ a ∧ a ≤ 20000) (h2 : 0 ≤ w ∧ w ≤ 20) (h3 : 0 ≤ c ∧ c ≤ 7) (h4 : 0 ≤ k ∧ k ≤ 100) : made7 a w c k ≤ made7 a w (c + 1) k := by
  obtain ⟨q1, _, q3, _, _, _⟩ := made7_bd (c := c) h1 h2 (by omega) h4
  obtain ⟨r1, _, r3, _, _, _⟩ := made7_bd (c := c + 1) h1 h2 (by omega) h4
  unfold made7
  rw [Int.tdiv_eq_ediv_of_nonneg q3, Int.tdiv_eq_ediv_of_nonneg r3]
  have e : w * (c + 1) = w * c + w := by rw [Int.mul_add, Int.mul_one]
  rw [e] at r3 ⊢
  generalize w * c = x at *
  have e2 : (a + (x + w)) * k = (a + x) * k + w * k := by rw [← Int.add_assoc, Int.add_mul]
  rw [e2] at r3 ⊢
  have h5 : w * k ≤ w * 1000 := Int.mul_le_mul_of_nonneg_left (by omega) h2.1
  generalize (a + x) * k = y at *
  generalize w * k = z at *
  omega
theorem size_mono {s : Shop} {l : List SeenC} (hk : OkS s) {m c : Nat} (hm : m < s.moulds.length) (hc : c ≤ 7) (hne : known7 s l ≠ []) : (size7 s l m (c : Int)).1 ≤ (size7 s l m ((c : Int) + 1)).1 ∧ (size7 s l m (c : Int)).2 ≤ (size7 s l m ((c : Int) + 1)).2 := by
  obtain ⟨a1, a2, a3⟩ := size_at (c := (c : Int)) hm hne
  obtain ⟨b1, b2, b3⟩ := size_at (c := (c : Int) + 1) hm hne
  constructor
  · obtain ⟨k, hkk, p, hp, e⟩ := made_mem.1 b1
    have hb := twos7_bd hk hm hp
    have h1 := (a3 _ (made_mem.2 ⟨k, hkk, p, hp, rfl⟩)).1
    have hs := shrinkL_bd hk (known7_mem hkk).1
    have h2 := made7_mono (c := (c : Int)) hb.1 hb.2 (by omega) ⟨hs.1, hs.2.1⟩
    omega
  · obtain ⟨k, hkk, p, hp, e⟩ := made_mem.1 a2
    have hb := twos7_bd hk hm hp
    have h1 := (b3 _ (made_mem.2 ⟨k, hkk, p, hp, rfl⟩)).2
    have hs := shrinkL_bd hk (known7_mem hkk).1
    have h2 := made7_mono (c := (c : Int)) hb.1 hb.2 (by omega) ⟨hs.1, hs.2.1⟩
    omega
theorem fit_wider {s : Shop} {l : List SeenC} {a z a' z' : Int} (h1 : a' ≤ a) (h2 : z ≤ z') {p : Pl} (h : p ∈ fit7 s l a z) : p ∈ fit7 s l a' z' := by
  unfold fit7 at h ⊢
  rw [List.mem_filter] at h ⊢
  simp only [Bool.and_eq_true, decide_eq_true_eq] at h ⊢
  obtain ⟨h3, h4, h5⟩ := h
  exact ⟨h3, by omega, by omega⟩
theorem rangeE_ok {a z : Int} (h : rangeE ⟨a, z⟩ 0 20000 = 0) : 0 ≤ a ∧ a ≤ z ∧ z ≤ 20000 := by
  unfold rangeE at h
  split at h
  · cases h
  · split at h
    · cases h
    · rename_i g2 g3
      simp [inB] at g2 g3
      omega
theorem rangeE_of {a z : Int} (h : 0 ≤ a ∧ a ≤ z ∧ z ≤ 20000) : rangeE ⟨a, z⟩ 0 20000 = 0 := by
  unfold rangeE
  simp [inB]
  omega
/-- two casts behind each other, as the program answers -/
theorem larger_sizes {s : Shop} {l : List SeenC} (e : (seen7 s l).2 = 0) (hk : OkS s) {m c : Nat} (hm : m < s.moulds.length) (hc : c + 1 < castsN s m) :
    ∃ a b a' b' ev, sizesR s l (m : Int) (c : Int) = ((a, b), ev) ∧ sizesR s l (m : Int) ((c + 1 : Nat) : Int) = ((a', b'), ev) ∧ a ≤ a' ∧ b ≤ b' := by
  have hcs := castsN_bd hk hm
  by_cases hne : known7 s l = []
  · have ht : ∀ i : Nat, i < castsN s m → sizesR s l (m : Int) (i : Int) = ((0, 0), 9) := fun i hi => by
      have ht : there7 s (m : Int) (i : Int) = true := by
        unfold there7
        simp only [inB, Bool.and_eq_true, decide_eq_true_eq, Int.toNat_natCast]
        omega
      rw [sizesR_n e, ht, if_neg (by simp), if_pos hne]
    exact ⟨0, 0, 0, 0, 9, ht c (by omega), ht (c + 1) hc, Int.le_refl _, Int.le_refl _⟩
  · have h := size_mono hk hm (c := c) (by omega) hne
    refine ⟨_, _, _, _, 0, by rw [sizesR_in e hk hm (by omega) hne], by rw [sizesR_in e hk hm hc hne], ?_, ?_⟩
    · exact h.1
    · exact h.2
/-- a piece and a wider one, as the program answers -/
theorem larger_fits {s : Shop} {l : List SeenC} {a z a' z' : Int} (e : (seen7 s l).2 = 0) (h : rangeE ⟨a, z⟩ 0 20000 = 0) (h' : rangeE ⟨a', z'⟩ 0 20000 = 0) (h1 : a' ≤ a) (h2 : z ≤ z') :
    (fitsR s l a z).2 = (fitsR s l a' z').2 ∧ ∀ p ∈ (fitsR s l a z).1, p ∈ (fitsR s l a' z').1 := by
  by_cases hne : known7 s l = []
  · rw [fitsR_no e h hne, fitsR_no e h' hne]
    exact ⟨rfl, fun p hp => hp⟩
  · rw [fitsR_n e h hne, fitsR_n e h' hne]
    exact ⟨rfl, fun p hp => fit_wider h1 h2 hp⟩
end Go.Proofs.YtpdldmichpmgmaaGreat

namespace Go.Proofs.YtpdldmichpmgmaaGreat

theorem spanC_ok {s : Shop} {l : List SeenC} {m c : Nat} {a z : Int} (e : (seen7 s l).2 = 0) (hl : l.length < 6) (hm : m < s.moulds.length) (hc : c < castsN s m) (h0 : 0 ≤ a) (h1 : a ≤ z) (h2 : z ≤ 20000) : (seen7 s (l ++ [⟨(m : Int), (c : Int), a, z⟩])).2 = 0 := by
  obtain ⟨h3, _, h4⟩ := seen7_zero e
  have hk := okS_of h3
  have hcs := castsN_bd hk hm
  rw [seen7_ok h3 (by rw [List.length_append, List.length_singleton]; omega) fun k hk2 => ?_]
  rw [List.length_append, List.length_singleton] at hk2
  by_cases hj : k < l.length
  · have := h4 k hj
    unfold seenE7 at this ⊢
    rw [List.getD_eq_getElem?_getD, List.getElem?_append_left hj, ← List.getD_eq_getElem?_getD]
    exact this
  · obtain rfl : k = l.length := by omega
    refine seenE_of (y := ⟨(m : Int), (c : Int), a, z⟩) (by simp) ⟨by simp, by simp; omega⟩ ⟨by simp, ?_⟩ ⟨h0, h1, h2⟩
    simp only [Int.toNat_natCast]
    omega
theorem spanC_ne {s : Shop} {l : List SeenC} {m c : Nat} {n a z : Int} (hk : OkS s) (hm : m < s.moulds.length) (h : n ∈ madeL s l m c) (h1 : a ≤ n) (h2 : n ≤ z) : known7 s (l ++ [⟨(m : Int), (c : Int), a, z⟩]) ≠ [] := by
  obtain ⟨k, hkk, p, hp, e⟩ := made_mem.1 h
  refine List.ne_nil_of_mem (a := k) (known_iff.2 ⟨(known_iff.1 hkk).1, fun j hj => ?_⟩)
  have go : ∀ q, q ∈ twosC s l j k → (m = j → made7 q.1 q.2 c k = n) → q ∈ twosC s (l ++ [⟨(m : Int), (c : Int), a, z⟩]) j k := by
    intro q hq hn
    rw [twos_mem hk hj] at hq ⊢
    refine ⟨hq.1, twoOk_iff.2 fun y hy ey => ?_⟩
    rcases List.mem_append.1 hy with hy | hy
    · exact twoOk_iff.1 hq.2 y hy ey
    · rw [List.mem_singleton] at hy
      subst hy
      dsimp only at ey ⊢
      have := hn (by omega)
      omega
  by_cases ej : m = j
  · subst ej
    exact ⟨p, go p hp fun _ => e⟩
  · obtain ⟨q, hq⟩ := (known_iff.1 hkk).2 j hj
    exact ⟨q, go q hq fun h => absurd h ej⟩
theorem fit7_iff {s : Shop} {l : List SeenC} {m c : Nat} {pa pz : Int} (hk : OkS s) (hm : m < s.moulds.length) (hc : c < castsN s m) : (m, c) ∈ fit7 s l pa pz ↔ pa ≤ (size7 s l m c).1 ∧ (size7 s l m c).2 ≤ pz := by
  have hcs := castsN_bd hk hm
  unfold fit7
  rw [List.mem_filter, places_mem]
  simp only [Bool.and_eq_true, decide_eq_true_eq]
  constructor
  · exact fun h => h.2
  · exact fun h => ⟨⟨hm, by omega⟩, h⟩
/-- a cast of Fits has a size of the piece in a truth that agrees -/
theorem fitting_is {s : Shop} {l : List SeenC} {k : Int} {tw : List (Int × Int)} {m c : Nat} {pa pz : Int} (hk : OkS s) (ht : Truth7 s k tw) (h : ∀ y ∈ l, SeenIn s k tw y) (hm : m < s.moulds.length) (hc : c < castsN s m) (hp : (m, c) ∈ fit7 s l pa pz) : pa ≤ madeT k tw m c ∧ madeT k tw m c ≤ pz := by
  have h1 := truth_size hk ht h hm c
  have h2 := (fit7_iff hk hm hc).1 hp
  omega
/-- any other cast can have a size that is smaller, or larger -/
theorem fitting_other {s : Shop} {l : List SeenC} {m c : Nat} {pa pz : Int} (e : (seen7 s l).2 = 0) (hl : l.length < 6) (hm : m < s.moulds.length) (hc : c < castsN s m) (hne : known7 s l ≠ []) (hr : rangeE ⟨pa, pz⟩ 0 20000 = 0) (hp : (m, c) ∉ fit7 s l pa pz) :
    (shrinksR s (l ++ [⟨(m : Int), (c : Int), 0, max 0 (pa - 1)⟩])).2 = 0 ∨ (shrinksR s (l ++ [⟨(m : Int), (c : Int), min 20000 (pz + 1), 20000⟩])).2 = 0 ∨ 20000 < (size7 s l m c).2 := by
  have hk := okS_of (seen7_zero e).1
  have hb := rangeE_ok hr
  have hsm := size_small hk hm hc hne
  obtain ⟨h1, h2, _⟩ := size_at (c := (c : Int)) hm hne
  rw [fit7_iff hk hm hc] at hp
  by_cases hlo : pa ≤ (size7 s l m c).1
  · by_cases hhi : 20000 < (size7 s l m c).2
    · exact .inr (.inr hhi)
    · refine .inr (.inl ?_)
      have hz : pz < (size7 s l m c).2 := by
        by_cases hz : (size7 s l m c).2 ≤ pz
        · exact absurd ⟨hlo, hz⟩ hp
        · omega
      rw [shrinksR_n (spanC_ok e hl hm hc (by omega) (by omega) (by omega)) (spanC_ne hk hm h2 (by omega) (by omega))]
  · refine .inl ?_
    rw [shrinksR_n (spanC_ok e hl hm hc (by omega) (by omega) (by omega)) (spanC_ne hk hm h1 (by omega) (by omega))]
end Go.Proofs.YtpdldmichpmgmaaGreat

namespace Go.Proofs.YtpdldmichpmgmaaGreat

theorem fit_in {s : Shop} {l : List SeenC} {m c : Nat} {a z : Int} (hk : OkS s) (h : (m, c) ∈ fit7 s l a z) : m < s.moulds.length ∧ c < castsN s m := by
  unfold fit7 at h
  rw [List.mem_filter, places_mem] at h
  have hcs := castsN_bd hk (m := m) h.1.1
  exact ⟨h.1.1, by have := h.1.2; dsimp only at this; omega⟩
theorem there_of {s : Shop} {m c : Nat} (hk : OkS s) (hm : m < s.moulds.length) (hc : c < castsN s m) : there7 s (m : Int) (c : Int) = true := by
  have hcs := castsN_bd hk (m := m) hm
  unfold there7
  rw [Bool.and_eq_true, inB_iff, inB_iff]
  simp only [Int.toNat_natCast]
  omega
theorem fit_nodup {s : Shop} {l : List SeenC} {a z : Int} : (fit7 s l a z).Nodup := (places_nodup s).filter _
theorem take_fresh {α : Type} : ∀ {L : List α} {i : Nat} {x : α}, L.Nodup → L[i]? = some x → x ∉ L.take i
  | [], i, x, _, h => by simp at h
  | y :: L, 0, x, _, _ => by simp
  | y :: L, i + 1, x, hn, h => by
    rw [List.nodup_cons] at hn
    have h2 : L[i]? = some x := by simpa using h
    rw [List.take_succ_cons, List.mem_cons]
    rintro (e | e)
    · subst e; exact hn.1 (List.mem_of_getElem? h2)
    · exact take_fresh hn.2 h2 e
theorem set_asc7 {n : Nat} {set : List Int} (h : IsSet n set) {k : Nat} {x y : Int} (hx : set[k]? = some x) (hy : set[k + 1]? = some y) : x < y := by
  have hl : k + 1 < set.length := of_getq hy
  have := List.pairwise_iff_getElem.1 h.1 k (k + 1) (by omega) hl (by omega)
  rw [List.getElem?_eq_getElem (by omega)] at hx
  rw [List.getElem?_eq_getElem hl] at hy
  injection hx with hx
  injection hy with hy
  omega
/-- is a mould one of the first k casts' -/
def usedL (P : List (Nat × Nat)) (x : Int) (k : Nat) : Bool := (P.take k).any fun a => decide ((a.1 : Int) = x)
theorem usedL_succ {P : List (Nat × Nat)} {x : Int} {k : Nat} {a : Nat × Nat} (h : P[k]? = some a) : usedL P x (k + 1) = (usedL P x k || decide ((a.1 : Int) = x)) := by
  unfold usedL
  rw [List.take_add_one, h, List.any_append]
  simp
theorem usedL_all {P : List (Nat × Nat)} {x : Int} {k : Nat} (hk : P.length ≤ k) (h : ∃ a ∈ P, (a.1 : Int) = x) : usedL P x k = true := by
  unfold usedL
  rw [List.take_of_length_le hk, List.any_eq_true]
  obtain ⟨a, h1, h2⟩ := h
  exact ⟨a, h1, by simpa using h2⟩
theorem orderE_seen {s : Shop} {l : List SeenC} {p : List (Int × Int)} (h : (seen7 s l).2 ≠ 0) : orderE s l p ≠ 0 := by rw [orderE, if_pos h]; exact h
end Go.Proofs.YtpdldmichpmgmaaGreat
