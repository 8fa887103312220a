/- Layer 7, plain: no cast is smaller than the one before it; with a wider piece no cast stops to fit. Nothing of a program is stepped through here. -/
import Derived.Test.YtpdldmichpmgmaaGreatCKOuts
set_option linter.unusedVariables false
set_option linter.unusedSimpArgs false
set_option linter.all false
namespace Go.Proofs.YtpdldmichpmgmaaGreat

theorem made7_mono {a w c k : Int} (h1 : 1 ≤ a ∧ a ≤ 20000) (h2 : 0 ≤ w ∧ w ≤ 20) (h3 : 0 ≤ c ∧ c ≤ 7) (h4 : 0 ≤ k ∧ k ≤ 100) : made7 a w c k ≤ made7 a w (c + 1) k := by
  obtain ⟨q1, _, q3, _, _, _⟩ := made7_bd (c := c) h1 h2 (by omega) h4
  obtain ⟨r1, _, r3, _, _, _⟩ := made7_bd (c := c + 1) h1 h2 (by omega) h4
  unfold made7
  rw [Int.tdiv_eq_ediv_of_nonneg q3, Int.tdiv_eq_ediv_of_nonneg r3]
  have e : w * (c + 1) = w * c + w := by rw [Int.mul_add, Int.mul_one]
  rw [e] at r3 ⊢
  generalize w * c = x at *
  have e2 : (a + (x + w)) * k = (a + x) * k + w * k := by rw [← Int.add_assoc, Int.add_mul]
  rw [e2] at r3 ⊢
  have h5 : w * k ≤ w * 1000 := Int.mul_le_mul_of_nonneg_left (by omega) h2.1
  generalize (a + x) * k = y at *
  generalize w * k = z at *
  omega
theorem size_mono {s : Shop} {l : List SeenC} (hk : OkS s) {m c : Nat} (hm : m < s.moulds.length) (hc : c ≤ 7) (hne : known7 s l ≠ []) : (size7 s l m (c : Int)).1 ≤ (size7 s l m ((c : Int) + 1)).1 ∧ (size7 s l m (c : Int)).2 ≤ (size7 s l m ((c : Int) + 1)).2 := by
  obtain ⟨a1, a2, a3⟩ := size_at (c := (c : Int)) hm hne
  obtain ⟨b1, b2, b3⟩ := size_at (c := (c : Int) + 1) hm hne
  constructor
  · obtain ⟨k, hkk, p, hp, e⟩ := made_mem.1 b1
    have hb := twos7_bd hk hm hp
    have h1 := (a3 _ (made_mem.2 ⟨k, hkk, p, hp, rfl⟩)).1
    have hs := shrinkL_bd hk (known7_mem hkk).1
    have h2 := made7_mono (c := (c : Int)) hb.1 hb.2 (by omega) ⟨hs.1, hs.2.1⟩
    omega
  · obtain ⟨k, hkk, p, hp, e⟩ := made_mem.1 a2
    have hb := twos7_bd hk hm hp
    have h1 := (b3 _ (made_mem.2 ⟨k, hkk, p, hp, rfl⟩)).2
    have hs := shrinkL_bd hk (known7_mem hkk).1
    have h2 := made7_mono (c := (c : Int)) hb.1 hb.2 (by omega) ⟨hs.1, hs.2.1⟩
    omega
theorem fit_wider {s : Shop} {l : List SeenC} {a z a' z' : Int} (h1 : a' ≤ a) (h2 : z ≤ z') {p : Pl} (h : p ∈ fit7 s l a z) : p ∈ fit7 s l a' z' := by
  unfold fit7 at h ⊢
  rw [List.mem_filter] at h ⊢
  simp only [Bool.and_eq_true, decide_eq_true_eq] at h ⊢
  obtain ⟨h3, h4, h5⟩ := h
  exact ⟨h3, by omega, by omega⟩
theorem rangeE_ok {a z : Int} (h : rangeE ⟨a, z⟩ 0 20000 = 0) : 0 ≤ a ∧ a ≤ z ∧ z ≤ 20000 := by
  unfold rangeE at h
  split at h
  · cases h
  · split at h
    · cases h
    · rename_i g2 g3
      simp [inB] at g2 g3
      omega
theorem rangeE_of {a z : Int} (h : 0 ≤ a ∧ a ≤ z ∧ z ≤ 20000) : rangeE ⟨a, z⟩ 0 20000 = 0 := by
  unfold rangeE
  simp [inB]
  omega
/-- two casts behind each other, as the program answers -/
theorem larger_sizes {s : Shop} {l : List SeenC} (e : (seen7 s l).2 = 0) (hk : OkS s) {m c : Nat} (hm : m < s.moulds.length) (hc : c + 1 < castsN s m) :
    ∃ a b a' b' ev, sizesR s l (m : Int) (c : Int) = ((a, b), ev) ∧ sizesR s l (m : Int) ((c + 1 : Nat) : Int) = ((a', b'), ev) ∧ a ≤ a' ∧ b ≤ b' := by
  have hcs := castsN_bd hk hm
  by_cases hne : known7 s l = []
  · have ht : ∀ i : Nat, i < castsN s m → sizesR s l (m : Int) (i : Int) = ((0, 0), 9) := fun i hi => by
      have ht : there7 s (m : Int) (i : Int) = true := by
        unfold there7
        simp only [inB, Bool.and_eq_true, decide_eq_true_eq, Int.toNat_natCast]
        omega
      rw [sizesR_n e, ht, if_neg (by simp), if_pos hne]
    exact ⟨0, 0, 0, 0, 9, ht c (by omega), ht (c + 1) hc, Int.le_refl _, Int.le_refl _⟩
  · have h := size_mono hk hm (c := c) (by omega) hne
    refine ⟨_, _, _, _, 0, by rw [sizesR_in e hk hm (by omega) hne], by rw [sizesR_in e hk hm hc hne], ?_, ?_⟩
    · exact h.1
    · exact h.2
/-- a piece and a wider one, as the program answers -/
theorem larger_fits {s : Shop} {l : List SeenC} {a z a' z' : Int} (e : (seen7 s l).2 = 0) (h : rangeE ⟨a, z⟩ 0 20000 = 0) (h' : rangeE ⟨a', z'⟩ 0 20000 = 0) (h1 : a' ≤ a) (h2 : z ≤ z') :
    (fitsR s l a z).2 = (fitsR s l a' z').2 ∧ ∀ p ∈ (fitsR s l a z).1, p ∈ (fitsR s l a' z').1 := by
  by_cases hne : known7 s l = []
  · rw [fitsR_no e h hne, fitsR_no e h' hne]
    exact ⟨rfl, fun p hp => hp⟩
  · rw [fitsR_n e h hne, fitsR_n e h' hne]
    exact ⟨rfl, fun p hp => fit_wider h1 h2 hp⟩
end Go.Proofs.YtpdldmichpmgmaaGreat
