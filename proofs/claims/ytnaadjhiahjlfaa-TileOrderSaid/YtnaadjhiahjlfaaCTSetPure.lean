/- Plain: sets of tiles, and the layings in the program's way. Nothing of a program stands here. -/
import Derived.Test.YtnaadjhiahjlfaaCTSorts
set_option linter.unusedVariables false
set_option linter.unusedSimpArgs false
set_option linter.all false
namespace Go.Proofs.Ytnaadjhiahjlfaa

theorem mem_bitL (s : Nat) (i : Int) : i ∈ bitL s ↔ ∃ k : Nat, k < 8 ∧ s.testBit k = true ∧ (k : Int) = i := by
  unfold bitL bitU
  simp only [List.mem_map, List.mem_filter, List.mem_range]
  constructor
  · rintro ⟨k, ⟨h1, h2⟩, h3⟩; exact ⟨k, h1, h2, h3⟩
  · rintro ⟨k, h1, h2, h3⟩; exact ⟨k, ⟨h1, h2⟩, h3⟩
theorem and_bitL {u s : Nat} (hu : u < 256) : (u &&& s = 0) ↔ (bitL s).all (fun i => !decide (i ∈ bitL u)) = true := by
  rw [List.all_eq_true]
  constructor
  · intro h i hi
    simp only [Bool.not_eq_true', decide_eq_false_iff_not]
    intro hj
    obtain ⟨k, hk, hb, rfl⟩ := (mem_bitL s i).1 hi
    obtain ⟨k', hk', hb', e⟩ := (mem_bitL u _).1 hj
    have e2 : k' = k := by omega
    subst e2
    have := Nat.testBit_and u s k'
    rw [h, hb, hb'] at this
    simp at this
  · intro h
    refine Nat.eq_of_testBit_eq fun k => ?_
    rw [Nat.testBit_and, Nat.zero_testBit]
    by_cases hk : k < 8
    · cases hb : s.testBit k
      · simp
      · have := h (k : Int) ((mem_bitL s _).2 ⟨k, hk, hb, rfl⟩)
        simp only [Bool.not_eq_true', decide_eq_false_iff_not] at this
        cases hb' : u.testBit k
        · rfl
        · exact absurd ((mem_bitL u _).2 ⟨k, hk, hb', rfl⟩) this
    · have : u.testBit k = false := Nat.testBit_lt_two_pow (Nat.lt_of_lt_of_le hu (Nat.pow_le_pow_right (by decide) (by omega) : 2 ^ 8 ≤ 2 ^ k))
      rw [this]; rfl
theorem or_bitL (u s : Nat) (i : Int) : i ∈ bitL (u ||| s) ↔ i ∈ bitL u ++ bitL s := by
  rw [List.mem_append, mem_bitL, mem_bitL, mem_bitL]
  simp only [Nat.testBit_or, Bool.or_eq_true]
  constructor
  · rintro ⟨k, h1, h2 | h2, h3⟩
    · exact .inl ⟨k, h1, h2, h3⟩
    · exact .inr ⟨k, h1, h2, h3⟩
  · rintro (⟨k, h1, h2, h3⟩ | ⟨k, h1, h2, h3⟩)
    · exact ⟨k, h1, .inl h2, h3⟩
    · exact ⟨k, h1, .inr h2, h3⟩
theorem or_lt256 {u s : Nat} (hu : u < 256) (hs : s < 256) : u ||| s < 256 := Nat.or_lt_two_pow (n := 8) hu hs

/-- all layings of the last rows, as the program goes -/
def layP (h : Hall) (l : List Seen) : Nat → Nat → Int → List (List (List Int) × Int)
  | 0, _, before => [([], before)]
  | k + 1, u, before => (fitS h l (h.rows.length - (k + 1))).flatMap fun x => if u &&& x.1 = 0 then (layP h l k (u ||| x.1) (max before x.2)).map (headL (bitL x.1)) else []
theorem layL_congr (h : Hall) (l : List Seen) : ∀ (k : Nat) (a b : List Int) (g : Int), (∀ i, i ∈ a ↔ i ∈ b) → layL h l k a g = layL h l k b g := by
  intro k
  induction k with
  | zero => intro a b g _; rfl
  | succ k ih =>
    intro a b g hab
    rw [layL, layL]
    congr 1
    funext x
    have e : (x.all fun i => !decide (i ∈ a)) = (x.all fun i => !decide (i ∈ b)) := by
      congr 1; funext i; rw [decide_eq_decide.2 (hab i)]
    rw [e]
    by_cases hx : (x.all fun i => !decide (i ∈ b)) = true
    · rw [if_pos hx, if_pos hx, ih (a ++ x) (b ++ x) _ (fun i => by simp [hab i])]
    · rw [if_neg hx, if_neg hx]
theorem layP_layL {h : Hall} {l : List Seen} (hn : h.tiles.length < 9) (hp : ∀ r, r < h.rows.length → rowP h r < 9) : ∀ (k u : Nat) (g : Int), k ≤ h.rows.length → u < 256 → layP h l k u g = layL h l k (bitL u) g := by
  have h256 : ∀ s, s < 2 ^ h.tiles.length → s < 256 := fun s hs => Nat.lt_of_lt_of_le hs (Nat.pow_le_pow_right (by decide) (by omega : h.tiles.length ≤ 8) : 2 ^ h.tiles.length ≤ 2 ^ 8)
  intro k
  induction k with
  | zero => intro u g _ _; rfl
  | succ k ih =>
    intro u g hk hu
    rw [layP, layL, fitS, List.flatMap_map]
    have key : ∀ X : List (List Int), (∀ x ∈ X, x ∈ fitL h l (h.rows.length - (k + 1))) → (X.flatMap fun x => if u &&& encL x = 0 then (layP h l k (u ||| encL x) (max g (gap8 h l (h.rows.length - (k + 1)) x).2)).map (headL (bitL (encL x))) else []) =
        X.flatMap fun x => if (x.all fun i => !decide (i ∈ bitL u)) = true then (layL h l k (bitL u ++ x) (max g (gap8 h l (h.rows.length - (k + 1)) x).2)).map (headL x) else [] := by
      intro X
      induction X with
      | nil => intro _; rfl
      | cons x X ihX =>
        intro hX
        rw [List.flatMap_cons, List.flatMap_cons, ihX (fun y hy => hX y (List.mem_cons_of_mem _ hy))]
        congr 1
        obtain ⟨a, b, _, _⟩ := fit_lt hn (hp _ (by omega)) (hX x List.mem_cons_self)
        have hb := and_bitL (s := encL x) hu
        rw [b] at hb
        by_cases h0 : u &&& encL x = 0
        · rw [if_pos h0, if_pos (hb.1 h0), b, ih _ _ (by omega) (or_lt256 hu (h256 _ a)), layL_congr h l k (bitL (u ||| encL x)) (bitL u ++ x) _ (fun i => by rw [or_bitL, b])]
        · rw [if_neg h0, if_neg (fun hh => h0 (hb.2 hh))]
    exact key _ (fun x hx => hx)

end Go.Proofs.Ytnaadjhiahjlfaa
