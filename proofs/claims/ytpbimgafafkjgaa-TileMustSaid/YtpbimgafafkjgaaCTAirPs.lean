/- Plain: the air in which tiles fit is a range. Nothing of a program stands here. -/
import Derived.Test.YtpbimgafafkjgaaCTOuts1
set_option linter.unusedVariables false
set_option linter.unusedSimpArgs false
set_option linter.all false
namespace Go.Proofs.Ytpbimgafafkjgaa

theorem endsA_bd (l : List Int) : ∀ lo hi : Int, lo ≤ hi → (ends lo hi l).1 ≤ lo ∧ hi ≤ (ends lo hi l).2 ∧ (∀ x ∈ l, (ends lo hi l).1 ≤ x ∧ x ≤ (ends lo hi l).2) ∧ ((ends lo hi l).1 = lo ∨ (ends lo hi l).1 ∈ l) ∧ ((ends lo hi l).2 = hi ∨ (ends lo hi l).2 ∈ l) := by
  induction l with
  | nil => intro lo hi h; exact ⟨Int.le_refl _, Int.le_refl _, fun x hx => by simp at hx, .inl rfl, .inl rfl⟩
  | cons y l ih =>
    intro lo hi h
    obtain ⟨h1, h2, h3, h4, h5⟩ := ih (min lo y) (max hi y) (by omega)
    refine ⟨by show (ends (min lo y) (max hi y) l).1 ≤ lo; omega, by show hi ≤ (ends (min lo y) (max hi y) l).2; omega, fun x hx => ?_, ?_, ?_⟩
    · show (ends (min lo y) (max hi y) l).1 ≤ x ∧ x ≤ (ends (min lo y) (max hi y) l).2
      rcases List.mem_cons.1 hx with rfl | hx
      · exact ⟨by omega, by omega⟩
      · exact h3 x hx
    · show (ends (min lo y) (max hi y) l).1 = lo ∨ (ends (min lo y) (max hi y) l).1 ∈ y :: l
      rcases h4 with h4 | h4
      · rw [h4]
        rcases Int.le_total lo y with h6 | h6
        · left; omega
        · right; rw [show min lo y = y by omega]; exact List.mem_cons_self
      · exact .inr (List.mem_cons_of_mem _ h4)
    · show (ends (min lo y) (max hi y) l).2 = hi ∨ (ends (min lo y) (max hi y) l).2 ∈ y :: l
      rcases h5 with h5 | h5
      · rw [h5]
        rcases Int.le_total y hi with h6 | h6
        · left; omega
        · right; rw [show max hi y = y by omega]; exact List.mem_cons_self
      · exact .inr (List.mem_cons_of_mem _ h5)
theorem endsOfA_bd {l : List Int} (h : l ≠ []) : (∀ x ∈ l, (endsOf l).1 ≤ x ∧ x ≤ (endsOf l).2) ∧ (endsOf l).1 ∈ l ∧ (endsOf l).2 ∈ l := by
  cases l with
  | nil => exact absurd rfl h
  | cons y l =>
    obtain ⟨h1, h2, h3, h4, h5⟩ := endsA_bd l y y (Int.le_refl _)
    refine ⟨fun x hx => ?_, ?_, ?_⟩
    · rcases List.mem_cons.1 hx with rfl | hx
      · exact ⟨h1, h2⟩
      · exact h3 x hx
    · rcases h4 with h4 | h4
      · show (ends y y l).1 ∈ y :: l; rw [h4]; exact List.mem_cons_self
      · exact List.mem_cons_of_mem _ h4
    · rcases h5 with h5 | h5
      · show (ends y y l).2 ∈ y :: l; rw [h5]; exact List.mem_cons_self
      · exact List.mem_cons_of_mem _ h5
/-- the ends of a width: of some width and swell, and no other is beyond -/
theorem wide_pair {h : Hall} {l : List Seen} {t : Nat} (hne : twosL h l t ≠ []) (a : Int) : (∀ p ∈ twosL h l t, (wide8 h l t a).1 ≤ p.1 + p.2 * a ∧ p.1 + p.2 * a ≤ (wide8 h l t a).2) ∧ (∃ p ∈ twosL h l t, (wide8 h l t a).1 = p.1 + p.2 * a) ∧ (∃ p ∈ twosL h l t, (wide8 h l t a).2 = p.1 + p.2 * a) := by
  have hne2 : (twosL h l t).map (fun p => p.1 + p.2 * a) ≠ [] := by simpa using hne
  obtain ⟨h1, h2, h3⟩ := endsOfA_bd hne2
  refine ⟨fun p hp => h1 _ (List.mem_map.2 ⟨p, hp, rfl⟩), ?_, ?_⟩
  · obtain ⟨p, hp, e⟩ := List.mem_map.1 h2; exact ⟨p, hp, e.symm⟩
  · obtain ⟨p, hp, e⟩ := List.mem_map.1 h3; exact ⟨p, hp, e.symm⟩
theorem lin_id (u v a b c : Int) : (c - a) * (u + v * b) = (c - b) * (u + v * a) + (b - a) * (u + v * c) := by grind
theorem wide_conv {h : Hall} {l : List Seen} {t : Nat} (hne : twosL h l t ≠ []) {a b c : Int} (hab : a ≤ b) (hbc : b ≤ c) : (c - a) * (wide8 h l t b).2 ≤ (c - b) * (wide8 h l t a).2 + (b - a) * (wide8 h l t c).2 ∧ (c - b) * (wide8 h l t a).1 + (b - a) * (wide8 h l t c).1 ≤ (c - a) * (wide8 h l t b).1 := by
  obtain ⟨ha, _, _⟩ := wide_pair hne a
  obtain ⟨hc, _, _⟩ := wide_pair hne c
  obtain ⟨_, ⟨p, hp, e1⟩, ⟨q, hq, e2⟩⟩ := wide_pair hne b
  constructor
  · rw [e2, lin_id]
    have k1 := Int.mul_le_mul_of_nonneg_left (ha q hq).2 (show 0 ≤ c - b by omega)
    have k2 := Int.mul_le_mul_of_nonneg_left (hc q hq).2 (show 0 ≤ b - a by omega)
    omega
  · rw [e1, lin_id]
    have k1 := Int.mul_le_mul_of_nonneg_left (ha p hp).1 (show 0 ≤ c - b by omega)
    have k2 := Int.mul_le_mul_of_nonneg_left (hc p hp).1 (show 0 ≤ b - a by omega)
    omega
theorem upto_conv {h : Hall} {l : List Seen} {row : Nat} {tl : List Int} (ha : agree8 h l = true) (hT : ∀ i ∈ tl, 0 ≤ i ∧ i < h.tiles.length) {a b c : Int} (hab : a ≤ b) (hbc : b ≤ c) : ∀ k, k ≤ tl.length →
    (c - b) * (atUpto h l row tl a k).1 + (b - a) * (atUpto h l row tl c k).1 ≤ (c - a) * (atUpto h l row tl b k).1 ∧ (c - a) * (atUpto h l row tl b k).2 ≤ (c - b) * (atUpto h l row tl a k).2 + (b - a) * (atUpto h l row tl c k).2 := by
  intro k
  induction k with
  | zero =>
    intro _
    have e := lin_id (h.rows.getD row dRow).frame (h.rows.getD row dRow).swell a b c
    exact ⟨Int.le_of_eq e.symm, Int.le_of_eq e⟩
  | succ k ih =>
    intro hk
    obtain ⟨h1, h2⟩ := ih (by omega)
    have hx : tl[k]? = some tl[k] := List.getElem?_eq_getElem (by omega)
    obtain ⟨h0, hn⟩ := hT _ (List.mem_of_getElem? hx)
    have hne := agree_ne ha (t := (tl[k]).toNat) (by omega)
    obtain ⟨w1, w2⟩ := wide_conv hne hab hbc
    rw [atUpto_succ hx, atUpto_succ hx, atUpto_succ hx]
    dsimp only
    constructor
    · grind
    · grind
def fits8 (h : Hall) (l : List Seen) (row : Nat) (tl : List Int) (a : Int) : Prop := 0 ≤ (at8 h l row tl a).1 ∧ (at8 h l row tl a).2 ≤ h.most
theorem wrong_zero {h : Hall} {l : List Seen} {row : Nat} {tl : List Int} {a : Int} : wrong8 h.most (at8 h l row tl a) = 0 ↔ fits8 h l row tl a := by
  unfold wrong8 fits8
  split
  · constructor
    · intro e; cases e
    · intro e; omega
  · split
    · constructor
      · intro e; cases e
      · intro e; omega
    · constructor
      · intro _; omega
      · intro _; rfl
theorem fits_between {h : Hall} {l : List Seen} {row : Nat} {tl : List Int} (ha : agree8 h l = true) (hT : ∀ i ∈ tl, 0 ≤ i ∧ i < h.tiles.length) {a b c : Int} (hab : a ≤ b) (hbc : b ≤ c) (h1 : fits8 h l row tl a) (h2 : fits8 h l row tl c) : fits8 h l row tl b := by
  rcases Int.lt_or_le a c with hac | hac
  · obtain ⟨k1, k2⟩ := upto_conv (row := row) ha hT hab hbc tl.length (Nat.le_refl _)
    obtain ⟨a1, a2⟩ := h1
    obtain ⟨c1, c2⟩ := h2
    unfold at8 at a1 a2 c1 c2
    refine ⟨?_, ?_⟩
    · unfold at8
      have q1 := Int.mul_nonneg (show 0 ≤ c - b by omega) a1
      have q2 := Int.mul_nonneg (show 0 ≤ b - a by omega) c1
      have q3 : 0 ≤ (c - a) * (atUpto h l row tl b tl.length).1 := by omega
      exact Int.nonneg_of_mul_nonneg_right q3 (by omega)
    · unfold at8
      have q1 := Int.mul_le_mul_of_nonneg_left a2 (show 0 ≤ c - b by omega)
      have q2 := Int.mul_le_mul_of_nonneg_left c2 (show 0 ≤ b - a by omega)
      have q3 : (c - a) * (atUpto h l row tl b tl.length).2 ≤ (c - a) * h.most := by
        have e : (c - b) * h.most + (b - a) * h.most = (c - a) * h.most := by grind
        omega
      exact Int.le_of_mul_le_mul_left q3 (by omega)
  · rw [show b = a by omega]; exact h1

end Go.Proofs.Ytpbimgafafkjgaa

namespace Go.Proofs.Ytpbimgafafkjgaa

theorem airsUpto_parts (h : Hall) (l : List Seen) (row : Nat) (tl : List Int) : ∀ n : Nat, (airsUpto h l row tl n = none ∧ ∀ k : Nat, k < n → ¬ fits8 h l row tl k) ∨ ∃ lo hi : Nat, airsUpto h l row tl n = some ((lo : Int), (hi : Int)) ∧ lo ≤ hi ∧ hi < n ∧ fits8 h l row tl lo ∧ fits8 h l row tl hi ∧ ∀ k : Nat, k < n → fits8 h l row tl k → lo ≤ k ∧ k ≤ hi := by
  intro n
  induction n with
  | zero => exact .inl ⟨rfl, fun k hk => by omega⟩
  | succ n ih =>
    rw [airsUpto]
    by_cases hw : wrong8 h.most (at8 h l row tl n) = 0
    · rw [if_neg (by rw [hw]; decide)]
      have hf := wrong_zero.1 hw
      rcases ih with ⟨h1, h2⟩ | ⟨lo, hi, h1, h2, h3, h4, h5, h6⟩
      · rw [h1]
        refine .inr ⟨n, n, rfl, Nat.le_refl _, by omega, hf, hf, fun k hk hfk => ?_⟩
        rcases Nat.lt_or_eq_of_le (Nat.le_of_lt_succ hk) with h7 | h7
        · exact absurd hfk (h2 k h7)
        · omega
      · rw [h1]
        refine .inr ⟨lo, n, rfl, by omega, by omega, h4, hf, fun k hk hfk => ?_⟩
        rcases Nat.lt_or_eq_of_le (Nat.le_of_lt_succ hk) with h7 | h7
        · have := h6 k h7 hfk; omega
        · omega
    · rw [if_pos hw]
      have hnf : ¬ fits8 h l row tl n := fun hf => hw (wrong_zero.2 hf)
      rcases ih with ⟨h1, h2⟩ | ⟨lo, hi, h1, h2, h3, h4, h5, h6⟩
      · refine .inl ⟨h1, fun k hk => ?_⟩
        rcases Nat.lt_or_eq_of_le (Nat.le_of_lt_succ hk) with h7 | h7
        · exact h2 k h7
        · rw [h7]; exact hnf
      · refine .inr ⟨lo, hi, h1, h2, by omega, h4, h5, fun k hk hfk => ?_⟩
        rcases Nat.lt_or_eq_of_le (Nat.le_of_lt_succ hk) with h7 | h7
        · exact h6 k h7 hfk
        · rw [h7] at hfk; exact absurd hfk hnf
theorem airs_parts {h : Hall} {l : List Seen} {row : Nat} {tl : List Int} (e : asked8 h l row tl = 0) : (airsR h l row tl = ((0, 0), 8) ∧ ∀ k : Nat, k < 41 → ¬ fits8 h l row tl k) ∨ ∃ lo hi : Nat, airsR h l row tl = (((lo : Int), (hi : Int)), 0) ∧ lo ≤ hi ∧ hi < 41 ∧ fits8 h l row tl lo ∧ fits8 h l row tl hi ∧ ∀ k : Nat, k < 41 → fits8 h l row tl k → lo ≤ k ∧ k ≤ hi := by
  unfold airsR
  rw [if_neg (by rw [e]; decide), Int.toNat_natCast]
  rcases airsUpto_parts h l row tl 41 with ⟨h1, h2⟩ | ⟨lo, hi, h1, h2⟩
  · rw [h1]; exact .inl ⟨rfl, h2⟩
  · rw [h1]; exact .inr ⟨lo, hi, rfl, h2⟩
theorem why_iff {h : Hall} {l : List Seen} {row : Nat} {tl : List Int} (e : asked8 h l row tl = 0) (hal : h.alo ≤ h.ahi) : (whyR h l row tl).2.2 = 0 ∧ ((whyR h l row tl).1 = 0 ↔ ∀ a, h.alo ≤ a → a ≤ h.ahi → fits8 h l row tl a) := by
  unfold whyR
  rw [if_neg (by rw [e]; decide)]
  unfold whyUpto
  rw [Int.toNat_natCast]
  rcases firstErr_cases (fun n => wrong8 h.most (at8 h l row tl (h.alo + n))) (h.ahi - h.alo + 1).toNat with ⟨h1, h2⟩ | ⟨k, hk, h1, h2, _⟩
  · rw [h1]
    refine ⟨rfl, fun _ a ha1 ha2 => ?_, fun _ => rfl⟩
    have := h2 (a - h.alo).toNat (by omega)
    rw [show h.alo + ((a - h.alo).toNat : Int) = a by omega] at this
    exact wrong_zero.1 this
  · rw [h1]
    refine ⟨rfl, fun e2 => absurd e2 h2, fun hall => ?_⟩
    exact absurd (wrong_zero.2 (hall (h.alo + k) (by omega) (by omega))) h2

/-- the same hall in one air -/
def airAt (h : Hall) (a : Int) : Hall := { h with alo := a, ahi := a }
theorem airAt_fits {h : Hall} {l : List Seen} {row : Nat} {tl : List Int} {a x : Int} : fits8 (airAt h a) l row tl x ↔ fits8 h l row tl x := Iff.rfl
theorem airAt_check {h : Hall} {a : Int} (e : (check8 h).2.2 = 0) (h0 : 0 ≤ a) (h40 : a ≤ 40) : (check8 (airAt h a)).2.2 = 0 := by
  have hk := okH_of e
  have hm := hk.most
  have hnt := hk.nt
  have hnr := hk.nr
  unfold check8
  have q1 : inB a 0 40 = true := by simp [inB]; omega
  have q2 : inB h.most 0 20000 = true := by simp [inB]; omega
  have q3 : inB a a (a + 12) = true := by simp [inB]; omega
  rw [if_neg (by simp only [airAt]; rw [q1, q2]; decide), if_neg (by simp only [airAt]; rw [q3]; decide), if_neg (by simp only [airAt]; omega)]
  have h1 : firstErr (tileE (airAt h a).tiles) (airAt h a).tiles.length = none := firstErr_none fun k hk' => hk.tile hk'
  have h2 : firstErr (rowE (airAt h a).tiles.length (airAt h a).rows) (airAt h a).rows.length = none := firstErr_none fun k hk' => hk.row hk'
  rw [h1, h2]
theorem airAt_asked {h : Hall} {l : List Seen} {row : Nat} {tl : List Int} {a : Int} (e : asked8 h l row tl = 0) (h0 : 0 ≤ a) (h40 : a ≤ 40) : asked8 (airAt h a) l row tl = 0 := by
  obtain ⟨h1, ⟨h2, h3⟩, h4, h5⟩ := asked_zero e
  obtain ⟨s1, s2, s3⟩ := seen_zero h1
  have hc := airAt_check s1 h0 h40
  have hs : (seen8 (airAt h a) l).2 = (seen8 h l).2 := by
    unfold seen8
    rw [if_neg (show ¬ err8 (airAt h a) ≠ 0 by unfold err8; rw [hc]; decide), if_neg (show ¬ 6 < l.length by omega), if_neg (show ¬ err8 h ≠ 0 by unfold err8; rw [s1]; decide), if_neg (show ¬ 6 < l.length by omega)]
    rfl
  exact asked_fine (by rw [hs]; exact h1) (show row < h.rows.length by omega) (by rw [Int.toNat_natCast] at h4; exact h4) h5

/-- what the law says where some air fits -/
theorem air_some {h : Hall} {l : List Seen} {row lo hi a : Nat} {tl : List Int} (e : asked8 h l row tl = 0) (hk : OkH h) (ha : a < 41) (h2 : lo ≤ hi) (h3 : hi < 41) (h4 : fits8 h l row tl lo) (h5 : fits8 h l row tl hi) (h6 : ∀ k : Nat, k < 41 → fits8 h l row tl k → lo ≤ k ∧ k ≤ hi) :
    ((whyR h l row tl).1 = 0 ↔ (lo : Int) ≤ h.alo ∧ h.ahi ≤ hi) ∧ ((whyR (airAt h a) l row tl).1 = 0 ↔ lo ≤ a ∧ a ≤ hi) := by
  obtain ⟨g1, ⟨g2, g3⟩, g4, g5⟩ := asked_zero e
  have hT := (tilesE_zero g4).2.1
  have hair := hk.air
  have btw : ∀ x : Int, (lo : Int) ≤ x → x ≤ hi → fits8 h l row tl x := fun x hx1 hx2 => fits_between g5 hT hx1 hx2 h4 h5
  constructor
  · rw [(why_iff e hair.2.1).2]
    constructor
    · intro hf
      have f1 := hf h.alo (Int.le_refl _) hair.2.1
      have f2 := hf h.ahi hair.2.1 (Int.le_refl _)
      rw [show h.alo = ((h.alo.toNat : Nat) : Int) by omega] at f1
      rw [show h.ahi = ((h.ahi.toNat : Nat) : Int) by omega] at f2
      have k1 := h6 _ (by omega) f1
      have k2 := h6 _ (by omega) f2
      omega
    · intro hf x hx1 hx2
      exact btw x (by omega) (by omega)
  · rw [(why_iff (airAt_asked e (by omega) (by omega)) (Int.le_refl _)).2]
    constructor
    · intro hf
      exact h6 a ha (airAt_fits.1 (hf (a : Int) (Int.le_refl _) (Int.le_refl _)))
    · intro hf x hx1 hx2
      have hx1' : (a : Int) ≤ x := hx1
      have hx2' : x ≤ (a : Int) := hx2
      exact airAt_fits.2 (btw x (by omega) (by omega))
theorem air_none {h : Hall} {l : List Seen} {row a : Nat} {tl : List Int} (e : asked8 h l row tl = 0) (hk : OkH h) (ha : a < 41) (h6 : ∀ k : Nat, k < 41 → ¬ fits8 h l row tl k) :
    (whyR h l row tl).1 ≠ 0 ∧ (whyR (airAt h a) l row tl).1 ≠ 0 := by
  have hair := hk.air
  constructor
  · intro e2
    have f1 := (why_iff e hair.2.1).2.1 e2 h.alo (Int.le_refl _) hair.2.1
    rw [show h.alo = ((h.alo.toNat : Nat) : Int) by omega] at f1
    exact h6 _ (by omega) f1
  · intro e2
    have f1 := (why_iff (airAt_asked (a := (a : Int)) e (by omega) (by omega)) (Int.le_refl _)).2.1 e2 (a : Int) (Int.le_refl _) (Int.le_refl _)
    exact h6 a ha (airAt_fits.1 f1)

end Go.Proofs.Ytpbimgafafkjgaa
