/- Plain: rows of tiles that are a laying. Nothing of a program stands here. -/
import Derived.Test.YtnaadjhiahjlfaaCTAnsws
import Derived.Test.YtnaadjhiahjlfaaCTLeaP
set_option linter.unusedVariables false
set_option linter.unusedSimpArgs false
set_option linter.all false
namespace Go.Proofs.Ytnaadjhiahjlfaa

/-- the gap of rows from one on, if they are a laying -/
def layingR (h : Hall) (l : List Seen) : List (List Int) → Nat → List Int → Int → Option Int
  | [], _, _, most => some most
  | x :: rows, r, used, most =>
    if tilesE h.tiles.length (h.rows.getD r dRow).places x ≠ 0 then none else
    if x.any (fun i => decide (i ∈ used)) = true then none else
    if wrong8 h.most (gap8 h l r x) ≠ 0 then none else layingR h l rows (r + 1) (used ++ x) (max most (gap8 h l r x).2)
def layingT (h : Hall) (l : List Seen) (rows : List (List Int)) : Int × Bool :=
  if rows.length ≠ h.rows.length then (0, false) else
  match layingR h l rows 0 [] 0 with
  | none => (0, false)
  | some g => (g, true)

theorem pair_of_adj : ∀ l : List Int, (∀ k, k + 1 < l.length → l.getD k 0 < l.getD (k + 1) 0) → l.Pairwise (· < ·)
  | [], _ => List.Pairwise.nil
  | [x], _ => List.pairwise_singleton _ x
  | x :: y :: l, h => by
    have ih := pair_of_adj (y :: l) (fun k hk => by have := h (k + 1) (by simpa using hk); simpa using this)
    have h0 : x < y := by have := h 0 (by simp); simpa using this
    refine List.Pairwise.cons (fun z hz => ?_) ih
    rcases List.mem_cons.1 hz with rfl | hz
    · exact h0
    · exact Int.lt_trans h0 ((List.pairwise_cons.1 ih).1 z hz)
theorem adj_of_pair {l : List Int} (h : l.Pairwise (· < ·)) {k : Nat} (hk : k + 1 < l.length) : l.getD k 0 < l.getD (k + 1) 0 := by
  rw [List.getD_eq_getElem?_getD, List.getD_eq_getElem?_getD, List.getElem?_eq_getElem (show k < l.length by omega), List.getElem?_eq_getElem hk]
  exact List.pairwise_iff_getElem.1 h k (k + 1) (by omega) hk (by omega)
theorem asc_sub : ∀ (n : Nat) (a : Int) (x : List Int), x.Pairwise (· < ·) → (∀ i ∈ x, a ≤ i ∧ i < a + n) → x.Sublist ((List.range n).map fun i : Nat => a + (i : Int)) := by
  intro n
  induction n with
  | zero =>
    intro a x _ hb
    cases x with
    | nil => exact List.nil_sublist _
    | cons y x => have := hb y List.mem_cons_self; simp at this; omega
  | succ n ih =>
    intro a x hp hb
    have hr : (List.range (n + 1)).map (fun i : Nat => a + (i : Int)) = a :: (List.range n).map fun i : Nat => a + 1 + (i : Int) := by
      rw [List.range_succ_eq_map, List.map_cons, List.map_map]
      congr 1
      · simp
      · refine List.map_congr_left fun i _ => ?_
        simp only [Function.comp, Nat.succ_eq_add_one]
        omega
    rw [hr]
    cases x with
    | nil => exact List.nil_sublist _
    | cons y x =>
      obtain ⟨p1, p2⟩ := List.pairwise_cons.1 hp
      have hy := hb y List.mem_cons_self
      by_cases e : y = a
      · subst e
        refine (ih (y + 1) x p2 fun i hi => ?_).cons_cons y
        have h1 := p1 i hi
        have h2 := hb i (List.mem_cons_of_mem _ hi)
        omega
      · refine (ih (a + 1) (y :: x) hp fun i hi => ?_).cons a
        have h2 := hb i hi
        rcases List.mem_cons.1 hi with rfl | hi
        · omega
        · have h1 := p1 i hi; omega
theorem sub_lex {x of : List Int} (h : x.Sublist of) : x ∈ lexL x.length of := by
  induction h with
  | slnil => simp [lexL]
  | @cons x of a h ih =>
    cases x with
    | nil => simp [lexL]
    | cons y x => rw [List.length_cons, lexL]; exact List.mem_append_right _ ih
  | @cons_cons x of a h ih =>
    rw [List.length_cons, lexL]
    exact List.mem_append_left _ (List.mem_map_of_mem ih)
theorem numbers_pair (n : Nat) : (numbersL n).Pairwise (· < ·) := by
  unfold numbersL
  rw [List.pairwise_map]
  exact List.pairwise_lt_range.imp fun h => by omega
theorem notAsc_any {tl : List Int} : (List.range (tl.length - 1)).any (fun k => decide (tl.getD (k + 1) 0 ≤ tl.getD k 0)) = false ↔ tl.Pairwise (· < ·) := by
  rw [List.any_eq_false]
  constructor
  · intro h
    refine pair_of_adj tl fun k hk => ?_
    have := h k (List.mem_range.2 (by omega))
    simpa using this
  · intro h k hk
    have hk := List.mem_range.1 hk
    have := adj_of_pair h (k := k) (by omega)
    simpa using this
/-- tiles of a row, by the check and by the list of all of them -/
theorem tiles_lex {h : Hall} {r : Nat} {x : List Int} (hk : OkH h) (hr : r < h.rows.length) : tilesE h.tiles.length (h.rows.getD r dRow).places x = 0 ↔ x ∈ lexL (rowP h r) (numbersL h.tiles.length) := by
  have hx : h.rows[r]? = some ⟨(h.rows[r]).frame, (h.rows[r]).swell, (h.rows[r]).places⟩ := List.getElem?_eq_getElem hr
  obtain ⟨f1, f2, f3, f4, f5, f6⟩ := rowE_zero hx (hk.row hr)
  have hp : 0 ≤ (h.rows.getD r dRow).places := by rw [getD_of hx]; dsimp only; omega
  unfold rowP
  constructor
  · intro e
    obtain ⟨e1, e2, e3⟩ := tilesE_zero e
    have hpw : x.Pairwise (· < ·) := notAsc_any.1 e3
    have hs := asc_sub h.tiles.length 0 x hpw (fun i hi => by have := e2 i hi; omega)
    have hn : (List.range h.tiles.length).map (fun i : Nat => (0 : Int) + (i : Int)) = numbersL h.tiles.length := by
      unfold numbersL; refine List.map_congr_left fun i _ => ?_; omega
    rw [hn] at hs
    have := sub_lex hs
    rwa [show x.length = (h.rows.getD r dRow).places.toNat by omega] at this
  · intro hx
    obtain ⟨s1, s2⟩ := lex_sub _ _ x hx
    have hpw : x.Pairwise (· < ·) := (numbers_pair _).sublist s1
    unfold tilesE
    rw [if_neg (by rw [s2]; omega), if_neg (by
      rw [Bool.not_eq_true, List.any_eq_false]
      intro i hi
      have h1 := s1.subset hi
      unfold numbersL at h1
      obtain ⟨j, hj, rfl⟩ := List.mem_map.1 h1
      have := List.mem_range.1 hj
      simp [inB]; omega), if_neg (by rw [notAsc_any.2 hpw]; decide)]
/-- the layings are the rows of the list of all layings -/
theorem lay_mem {h : Hall} {l : List Seen} (hk : OkH h) : ∀ (k : Nat) (rows : List (List Int)) (used : List Int) (most g : Int), k ≤ h.rows.length → rows.length = k → (layingR h l rows (h.rows.length - k) used most = some g ↔ (rows, g) ∈ layL h l k used most) := by
  intro k
  induction k with
  | zero =>
    intro rows used most g _ hl
    have : rows = [] := List.eq_nil_of_length_eq_zero hl
    subst this
    rw [layingR, layL, List.mem_singleton]
    constructor
    · intro e; injection e with e; rw [e]
    · intro e; injection e with _ e; rw [e]
  | succ k ih =>
    intro rows used most g hk' hl
    cases rows with
    | nil => simp at hl
    | cons x rows =>
      have hl' : rows.length = k := by simpa using hl
      rw [layingR, layL, List.mem_flatMap]
      have hr1 : h.rows.length - (k + 1) + 1 = h.rows.length - k := by omega
      rw [hr1]
      constructor
      · intro e
        split at e
        · cases e
        · rename_i e1
          split at e
          · cases e
          · rename_i e2
            split at e
            · cases e
            · rename_i e3
              have e1 : tilesE h.tiles.length (h.rows.getD (h.rows.length - (k + 1)) dRow).places x = 0 := by simpa using e1
              have e3 : wrong8 h.most (gap8 h l (h.rows.length - (k + 1)) x) = 0 := by simpa using e3
              refine ⟨x, ?_, ?_⟩
              · unfold fitL
                exact List.mem_filter.2 ⟨(tiles_lex hk (by omega)).1 e1, by simpa using e3⟩
              · rw [if_pos (by
                  rw [List.all_eq_true]
                  intro i hi
                  have := List.any_eq_false.1 (Bool.not_eq_true _ ▸ e2) i hi
                  simpa using this)]
                exact List.mem_map.2 ⟨(rows, g), (ih rows _ _ g (by omega) hl').1 e, rfl⟩
      · rintro ⟨x', hx', hm⟩
        unfold fitL at hx'
        obtain ⟨m1, m2⟩ := List.mem_filter.1 hx'
        split at hm
        · rename_i hu
          obtain ⟨r', hr', he⟩ := List.mem_map.1 hm
          unfold headL at he
          injection he with he1 he2
          injection he1 with he1 he3
          subst he1; subst he2; subst he3
          rw [if_neg (by simpa using (tiles_lex hk (by omega)).2 m1), if_neg (by
            rw [Bool.not_eq_true, List.any_eq_false]
            intro i hi
            have := List.all_eq_true.1 hu i hi
            simpa using this), if_neg (by simpa using m2)]
          exact (ih _ _ _ _ (by omega) hl').2 hr'
        · cases hm
theorem lay_len {h : Hall} {l : List Seen} : ∀ (k : Nat) (used : List Int) (b : Int), ∀ r ∈ layL h l k used b, r.1.length = k := by
  intro k
  induction k with
  | zero => intro used b r hr; rw [layL, List.mem_singleton] at hr; subst hr; rfl
  | succ k ih =>
    intro used b r hr
    rw [layL, List.mem_flatMap] at hr
    obtain ⟨x, _, hr⟩ := hr
    split at hr
    · obtain ⟨r0, hr0, rfl⟩ := List.mem_map.1 hr
      show (x :: r0.1).length = k + 1
      rw [List.length_cons, ih _ _ r0 hr0]
    · cases hr
theorem layingT_iff {h : Hall} {l : List Seen} {rows : List (List Int)} {g : Int} (hk : OkH h) : layingT h l rows = (g, true) ↔ (rows, g) ∈ layL h l h.rows.length [] 0 := by
  unfold layingT
  constructor
  · intro e
    split at e
    · injection e with _ e; cases e
    · rename_i hl
      have hl : rows.length = h.rows.length := by simpa using hl
      have := (lay_mem (l := l) hk h.rows.length rows [] 0 g (Nat.le_refl _) hl).1
      rw [Nat.sub_self] at this
      refine this ?_
      split at e
      · injection e with _ e; cases e
      · rename_i g' hg
        injection e with e _
        rw [hg, e]
  · intro hm
    have hl := lay_len _ _ _ _ hm
    dsimp only at hl
    rw [if_neg (by simp [hl])]
    have := (lay_mem hk h.rows.length rows [] 0 g (Nat.le_refl _) hl).2 hm
    rw [Nat.sub_self] at this
    rw [this]
theorem layingT_true {h : Hall} {l : List Seen} {rows : List (List Int)} (e : (layingT h l rows).2 = true) : layingT h l rows = ((layingT h l rows).1, true) := by rw [← e]
/-- the law TileLaid -/
theorem laid_pack {h : Hall} {l : List Seen} (e1 : (seen8 h l).2 = 0) (ea : agree8 h l = true) :
    (layR h l = ([], 0, 8) ∧ bestR h l h.rows.length (numbersL h.tiles.length) 0 = none ∧ ∀ L, (layingT h l L).2 = false) ∨ ∃ rows g, layR h l = (rows, g, 0) ∧ bestR h l h.rows.length (numbersL h.tiles.length) 0 = some (rows, g) ∧ layingT h l rows = (g, true) ∧ ∀ L, (layingT h l L).2 = true → g ≤ (layingT h l L).1 := by
  have hk : OkH h := okH_of (seen_zero e1).1
  have hE : ¬ hallE h l ≠ 0 := by unfold hallE; rw [if_neg (by simp [e1]), if_neg (by rw [ea]; decide)]; decide
  unfold layR
  rw [if_neg hE]
  cases hb : bestR h l h.rows.length (numbersL h.tiles.length) 0 with
  | none =>
    refine .inl ⟨rfl, rfl, fun L => ?_⟩
    rw [best_all] at hb
    have hX := (least_none _).1 hb
    cases hq : (layingT h l L).2 with
    | false => rfl
    | true =>
      have := (layingT_iff hk).1 (layingT_true hq)
      rw [hX] at this
      cases this
  | some r =>
    obtain ⟨rows, g⟩ := r
    refine .inr ⟨rows, g, rfl, rfl, ?_, fun L hL => ?_⟩
    · rw [best_all] at hb
      unfold leastL at hb
      rcases (least_spec _ none).2.2 _ hb with h1 | h1
      · cases h1
      · exact (layingT_iff hk).2 h1
    · rw [best_all] at hb
      have hm := (layingT_iff hk).1 (layingT_true hL)
      obtain ⟨z, hz1, hz2⟩ := (least_spec _ none).1 _ hm
      unfold leastL at hb
      rw [hb] at hz1
      injection hz1 with hz1
      subst hz1
      exact hz2
/-- what is used before matters only for the tiles of the rows -/
theorem layingR_congr {h : Hall} {l : List Seen} : ∀ (rows : List (List Int)) (r : Nat) (u v : List Int) (most : Int), (∀ x ∈ rows, ∀ i ∈ x, (i ∈ u ↔ i ∈ v)) → layingR h l rows r u most = layingR h l rows r v most := by
  intro rows
  induction rows with
  | nil => intro r u v most _; rfl
  | cons x rows ih =>
    intro r u v most hc
    rw [layingR, layingR]
    have ha : x.any (fun i => decide (i ∈ u)) = x.any (fun i => decide (i ∈ v)) := by
      rw [Bool.eq_iff_iff, List.any_eq_true, List.any_eq_true]
      constructor
      · rintro ⟨i, hi, h1⟩
        exact ⟨i, hi, by simpa using (hc x List.mem_cons_self i hi).1 (by simpa using h1)⟩
      · rintro ⟨i, hi, h1⟩
        exact ⟨i, hi, by simpa using (hc x List.mem_cons_self i hi).2 (by simpa using h1)⟩
    rw [ha, ih (r + 1) (u ++ x) (v ++ x) _ (fun y hy i hi => by
      have := hc y (List.mem_cons_of_mem _ hy) i hi
      rw [List.mem_append, List.mem_append, this])]
/-- each laying has each tile without which there is none -/
theorem laying_has {h : Hall} {l : List Seen} {L : List (List Int)} {t : Int} (hk : OkH h) (hw : withoutR h l t = false) (hL : (layingT h l L).2 = true) : ∃ r : Nat, r < h.rows.length ∧ t ∈ L.getD r [] := by
  have hl : L.length = h.rows.length := by
    have := lay_len _ _ _ _ ((layingT_iff hk).1 (layingT_true hL))
    exact this
  by_cases hin : ∃ x ∈ L, t ∈ x
  · obtain ⟨x, hx, ht⟩ := hin
    obtain ⟨r, hr, rfl⟩ := List.getElem_of_mem hx
    exact ⟨r, by omega, by rw [List.getD_eq_getElem?_getD, List.getElem?_eq_getElem hr]; exact ht⟩
  · exfalso
    have hm := (layingT_iff hk).1 (layingT_true hL)
    have h1 := (lay_mem hk h.rows.length L [] 0 _ (Nat.le_refl _) hl).2 hm
    rw [layingR_congr L _ [] [t] 0 (fun x hx i hi => by
      constructor
      · intro h2; cases h2
      · intro h2
        rw [List.mem_singleton] at h2
        subst h2
        exact absurd ⟨x, hx, hi⟩ hin)] at h1
    have h2 := (lay_mem hk h.rows.length L [t] 0 _ (Nat.le_refl _) hl).1 h1
    rw [without_lay] at hw
    cases hb : leastL (layL h l h.rows.length [t] 0) with
    | none =>
      rw [(least_none _).1 hb] at h2
      cases h2
    | some r => rw [hb] at hw; cases hw
/-- the law TileMust -/
theorem must_pack {h : Hall} {l : List Seen} (e1 : (seen8 h l).2 = 0) (ea : agree8 h l = true) :
    (must8 h l = ([], 8) ∧ layR h l = ([], 0, 8)) ∨ ∃ rows g S, must8 h l = (S, 0) ∧ layR h l = (rows, g, 0) ∧ rows.length = h.rows.length ∧ (∀ t ∈ S, ∃ r : Nat, r < h.rows.length ∧ t ∈ rows.getD r []) ∧ (∀ L, (layingT h l L).2 = true → ∀ t ∈ S, ∃ r : Nat, r < h.rows.length ∧ t ∈ L.getD r []) ∧ (∀ t ∈ S, 0 ≤ t ∧ t < h.tiles.length) ∧ S.Pairwise (· < ·) ∧ ∀ k : Nat, k < h.tiles.length → ((k : Int) ∈ S ∨ withoutR h l k = true) := by
  have hk : OkH h := okH_of (seen_zero e1).1
  have hE : ¬ hallE h l ≠ 0 := by unfold hallE; rw [if_neg (by simp [e1]), if_neg (by rw [ea]; decide)]; decide
  unfold must8
  rw [if_neg hE]
  rcases laid_pack e1 ea with ⟨q1, q2, _⟩ | ⟨rows, g, q1, q2, q3, _⟩
  · rw [if_pos q2]; exact .inl ⟨rfl, q1⟩
  · rw [if_neg (by rw [q2]; intro e; cases e)]
    have hS : ∀ t ∈ (numbersL h.tiles.length).filter (fun t => !withoutR h l t), withoutR h l t = false := fun t ht => by
      have := (List.mem_filter.1 ht).2
      simpa using this
    have hl : rows.length = h.rows.length := by
      have := lay_len _ _ _ _ ((layingT_iff hk).1 q3)
      exact this
    refine .inr ⟨rows, g, _, rfl, q1, hl, fun t ht => laying_has hk (hS t ht) (by rw [q3]), fun L hL t ht => laying_has hk (hS t ht) hL, fun t ht => ?_, ?_, fun k hkt => ?_⟩
    · have h1 := (List.mem_filter.1 ht).1
      unfold numbersL at h1
      obtain ⟨j, hj, rfl⟩ := List.mem_map.1 h1
      have := List.mem_range.1 hj
      omega
    · exact (numbers_pair _).sublist List.filter_sublist
    · cases hw : withoutR h l k with
      | true => exact .inr rfl
      | false =>
        refine .inl (List.mem_filter.2 ⟨?_, by simp [hw]⟩)
        unfold numbersL
        exact List.mem_map.2 ⟨k, List.mem_range.2 hkt, rfl⟩

end Go.Proofs.Ytnaadjhiahjlfaa
