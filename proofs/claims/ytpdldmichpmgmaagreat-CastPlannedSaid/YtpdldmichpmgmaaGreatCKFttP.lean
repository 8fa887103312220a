/- Layer 7, plain: a cast of Fits has a size of the piece in any truth that agrees; any other cast can have one that is smaller or larger. Nothing of a program is stepped through here. -/
import Derived.Test.YtpdldmichpmgmaaGreatCKLarP
import Derived.Test.YtpdldmichpmgmaaGreatCKReaP
set_option linter.unusedVariables false
set_option linter.unusedSimpArgs false
set_option linter.all false
namespace Go.Proofs.YtpdldmichpmgmaaGreat

theorem spanC_ok {s : Shop} {l : List SeenC} {m c : Nat} {a z : Int} (e : (seen7 s l).2 = 0) (hl : l.length < 6) (hm : m < s.moulds.length) (hc : c < castsN s m) (h0 : 0 ≤ a) (h1 : a ≤ z) (h2 : z ≤ 20000) : (seen7 s (l ++ [⟨(m : Int), (c : Int), a, z⟩])).2 = 0 := by
  obtain ⟨h3, _, h4⟩ := seen7_zero e
  have hk := okS_of h3
  have hcs := castsN_bd hk hm
  rw [seen7_ok h3 (by rw [List.length_append, List.length_singleton]; omega) fun k hk2 => ?_]
  rw [List.length_append, List.length_singleton] at hk2
  by_cases hj : k < l.length
  · have := h4 k hj
    unfold seenE7 at this ⊢
    rw [List.getD_eq_getElem?_getD, List.getElem?_append_left hj, ← List.getD_eq_getElem?_getD]
    exact this
  · obtain rfl : k = l.length := by omega
    refine seenE_of (y := ⟨(m : Int), (c : Int), a, z⟩) (by simp) ⟨by simp, by simp; omega⟩ ⟨by simp, ?_⟩ ⟨h0, h1, h2⟩
    simp only [Int.toNat_natCast]
    omega
theorem spanC_ne {s : Shop} {l : List SeenC} {m c : Nat} {n a z : Int} (hk : OkS s) (hm : m < s.moulds.length) (h : n ∈ madeL s l m c) (h1 : a ≤ n) (h2 : n ≤ z) : known7 s (l ++ [⟨(m : Int), (c : Int), a, z⟩]) ≠ [] := by
  obtain ⟨k, hkk, p, hp, e⟩ := made_mem.1 h
  refine List.ne_nil_of_mem (a := k) (known_iff.2 ⟨(known_iff.1 hkk).1, fun j hj => ?_⟩)
  have go : ∀ q, q ∈ twosC s l j k → (m = j → made7 q.1 q.2 c k = n) → q ∈ twosC s (l ++ [⟨(m : Int), (c : Int), a, z⟩]) j k := by
    intro q hq hn
    rw [twos_mem hk hj] at hq ⊢
    refine ⟨hq.1, twoOk_iff.2 fun y hy ey => ?_⟩
    rcases List.mem_append.1 hy with hy | hy
    · exact twoOk_iff.1 hq.2 y hy ey
    · rw [List.mem_singleton] at hy
      subst hy
      dsimp only at ey ⊢
      have := hn (by omega)
      omega
  by_cases ej : m = j
  · subst ej
    exact ⟨p, go p hp fun _ => e⟩
  · obtain ⟨q, hq⟩ := (known_iff.1 hkk).2 j hj
    exact ⟨q, go q hq fun h => absurd h ej⟩
theorem fit7_iff {s : Shop} {l : List SeenC} {m c : Nat} {pa pz : Int} (hk : OkS s) (hm : m < s.moulds.length) (hc : c < castsN s m) : (m, c) ∈ fit7 s l pa pz ↔ pa ≤ (size7 s l m c).1 ∧ (size7 s l m c).2 ≤ pz := by
  have hcs := castsN_bd hk hm
  unfold fit7
  rw [List.mem_filter, places_mem]
  simp only [Bool.and_eq_true, decide_eq_true_eq]
  constructor
  · exact fun h => h.2
  · exact fun h => ⟨⟨hm, by omega⟩, h⟩
/-- a cast of Fits has a size of the piece in a truth that agrees -/
theorem fitting_is {s : Shop} {l : List SeenC} {k : Int} {tw : List (Int × Int)} {m c : Nat} {pa pz : Int} (hk : OkS s) (ht : Truth7 s k tw) (h : ∀ y ∈ l, SeenIn s k tw y) (hm : m < s.moulds.length) (hc : c < castsN s m) (hp : (m, c) ∈ fit7 s l pa pz) : pa ≤ madeT k tw m c ∧ madeT k tw m c ≤ pz := by
  have h1 := truth_size hk ht h hm c
  have h2 := (fit7_iff hk hm hc).1 hp
  omega
/-- any other cast can have a size that is smaller, or larger -/
theorem fitting_other {s : Shop} {l : List SeenC} {m c : Nat} {pa pz : Int} (e : (seen7 s l).2 = 0) (hl : l.length < 6) (hm : m < s.moulds.length) (hc : c < castsN s m) (hne : known7 s l ≠ []) (hr : rangeE ⟨pa, pz⟩ 0 20000 = 0) (hp : (m, c) ∉ fit7 s l pa pz) :
    (shrinksR s (l ++ [⟨(m : Int), (c : Int), 0, max 0 (pa - 1)⟩])).2 = 0 ∨ (shrinksR s (l ++ [⟨(m : Int), (c : Int), min 20000 (pz + 1), 20000⟩])).2 = 0 ∨ 20000 < (size7 s l m c).2 := by
  have hk := okS_of (seen7_zero e).1
  have hb := rangeE_ok hr
  have hsm := size_small hk hm hc hne
  obtain ⟨h1, h2, _⟩ := size_at (c := (c : Int)) hm hne
  rw [fit7_iff hk hm hc] at hp
  by_cases hlo : pa ≤ (size7 s l m c).1
  · by_cases hhi : 20000 < (size7 s l m c).2
    · exact .inr (.inr hhi)
    · refine .inr (.inl ?_)
      have hz : pz < (size7 s l m c).2 := by
        by_cases hz : (size7 s l m c).2 ≤ pz
        · exact absurd ⟨hlo, hz⟩ hp
        · omega
      rw [shrinksR_n (spanC_ok e hl hm hc (by omega) (by omega) (by omega)) (spanC_ne hk hm h2 (by omega) (by omega))]
  · refine .inl ?_
    rw [shrinksR_n (spanC_ok e hl hm hc (by omega) (by omega) (by omega)) (spanC_ne hk hm h1 (by omega) (by omega))]
end Go.Proofs.YtpdldmichpmgmaaGreat
