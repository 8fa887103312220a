/- Plain: rows of tiles that are a laying. Nothing of a program stands here. -/
import Derived.Deep.OwnRows
import Derived.Test.YtpbimgafafkjgaaCTDryPs
import Derived.Test.YtpbimgafafkjgaaCTFits
import Derived.Test.YtpbimgafafkjgaaCTOuts2
import Derived.Test.YtpbimgafafkjgaaCTRefsI
import Derived.Test.YtpbimgafafkjgaaCTRefsK
import Derived.Test.YtpbimgafafkjgaaCTRegs
set_option linter.unusedVariables false
set_option linter.unusedSimpArgs false
set_option linter.all false
namespace Go.Proofs.Ytpbimgafafkjgaa

/-- the gap of rows from one on, if they are a laying -/
def layingR (h : Hall) (l : List Seen) : List (List Int) → Nat → List Int → Int → Option Int
  | [], _, _, most => some most
  | x :: rows, r, used, most =>
    if tilesE h.tiles.length (h.rows.getD r dRow).places x ≠ 0 then none else
    if x.any (fun i => decide (i ∈ used)) = true then none else
    if wrong8 h.most (gap8 h l r x) ≠ 0 then none else layingR h l rows (r + 1) (used ++ x) (max most (gap8 h l r x).2)
def layingT (h : Hall) (l : List Seen) (rows : List (List Int)) : Int × Bool :=
  if rows.length ≠ h.rows.length then (0, false) else
  match layingR h l rows 0 [] 0 with
  | none => (0, false)
  | some g => (g, true)

theorem pair_of_adj : ∀ l : List Int, (∀ k, k + 1 < l.length → l.getD k 0 < l.getD (k + 1) 0) → l.Pairwise (· < ·)
  | [], _ => List.Pairwise.nil
  | [x], _ => List.pairwise_singleton _ x
  | x :: y :: l, h => by
    have ih := pair_of_adj (y :: l) (fun k hk => by have := h (k + 1) (by simpa using hk); simpa using this)
    have h0 : x < y := by have := h 0 (by simp); simpa using this
    refine List.Pairwise.cons (fun z hz => ?_) ih
    rcases List.mem_cons.1 hz with rfl | hz
    · exact h0
    · exact Int.lt_trans h0 ((List.pairwise_cons.1 ih).1 z hz)
theorem adj_of_pair {l : List Int} (h : l.Pairwise (· < ·)) {k : Nat} (hk : k + 1 < l.length) : l.getD k 0 < l.getD (k + 1) 0 := by
  rw [List.getD_eq_getElem?_getD, List.getD_eq_getElem?_getD, List.getElem?_eq_getElem (show k < l.length by omega), List.getElem?_eq_getElem hk]
  exact List.pairwise_iff_getElem.1 h k (k + 1) (by omega) hk (by omega)
theorem asc_sub : ∀ (n : Nat) (a : Int) (x : List Int), x.Pairwise (· < ·) → (∀ i ∈ x, a ≤ i ∧ i < a + n) → x.Sublist ((List.range n).map fun i : Nat => a + (i : Int)) := by
  intro n
  induction n with
  | zero =>
    intro a x _ hb
    cases x with
    | nil => exact List.nil_sublist _
    | cons y x => have := hb y List.mem_cons_self; simp at this; omega
  | succ n ih =>
    intro a x hp hb
    have hr : (List.range (n + 1)).map (fun i : Nat => a + (i : Int)) = a :: (List.range n).map fun i : Nat => a + 1 + (i : Int) := by
      rw [List.range_succ_eq_map, List.map_cons, List.map_map]
      congr 1
      · simp
      · refine List.map_congr_left fun i _ => ?_
        simp only [Function.comp, Nat.succ_eq_add_one]
        omega
    rw [hr]
    cases x with
    | nil => exact List.nil_sublist _
    | cons y x =>
      obtain ⟨p1, p2⟩ := List.pairwise_cons.1 hp
      have hy := hb y List.mem_cons_self
      by_cases e : y = a
      · subst e
        refine (ih (y + 1) x p2 fun i hi => ?_).cons_cons y
        have h1 := p1 i hi
        have h2 := hb i (List.mem_cons_of_mem _ hi)
        omega
      · refine (ih (a + 1) (y :: x) hp fun i hi => ?_).cons a
        have h2 := hb i hi
        rcases List.mem_cons.1 hi with rfl | hi
        · omega
        · have h1 := p1 i hi; omega
theorem sub_lex {x of : List Int} (h : x.Sublist of) : x ∈ lexL x.length of := by
  induction h with
  | slnil => simp [lexL]
  | @cons x of a h ih =>
    cases x with
    | nil => simp [lexL]
    | cons y x => rw [List.length_cons, lexL]; exact List.mem_append_right _ ih
  | @cons_cons x of a h ih =>
    rw [List.length_cons, lexL]
    exact List.mem_append_left _ (List.mem_map_of_mem ih)
theorem numbers_pair (n : Nat) : (numbersL n).Pairwise (· < ·) := by
  unfold numbersL
  rw [List.pairwise_map]
  exact List.pairwise_lt_range.imp fun h => by omega
theorem notAsc_any {tl : List Int} : (List.range (tl.length - 1)).any (fun k => decide (tl.getD (k + 1) 0 ≤ tl.getD k 0)) = false ↔ tl.Pairwise (· < ·) := by
  rw [List.any_eq_false]
  constructor
  · intro h
    refine pair_of_adj tl fun k hk => ?_
    have := h k (List.mem_range.2 (by omega))
    simpa using this
  · intro h k hk
    have hk := List.mem_range.1 hk
    have := adj_of_pair h (k := k) (by omega)
    simpa using this
/-- tiles of a row, by the check and by the list of all of them -/
theorem tiles_lex {h : Hall} {r : Nat} {x : List Int} (hk : OkH h) (hr : r < h.rows.length) : tilesE h.tiles.length (h.rows.getD r dRow).places x = 0 ↔ x ∈ lexL (rowP h r) (numbersL h.tiles.length) := by
  have hx : h.rows[r]? = some ⟨(h.rows[r]).frame, (h.rows[r]).swell, (h.rows[r]).places⟩ := List.getElem?_eq_getElem hr
  obtain ⟨f1, f2, f3, f4, f5, f6⟩ := rowE_zero hx (hk.row hr)
  have hp : 0 ≤ (h.rows.getD r dRow).places := by rw [getD_of hx]; dsimp only; omega
  unfold rowP
  constructor
  · intro e
    obtain ⟨e1, e2, e3⟩ := tilesE_zero e
    have hpw : x.Pairwise (· < ·) := notAsc_any.1 e3
    have hs := asc_sub h.tiles.length 0 x hpw (fun i hi => by have := e2 i hi; omega)
    have hn : (List.range h.tiles.length).map (fun i : Nat => (0 : Int) + (i : Int)) = numbersL h.tiles.length := by
      unfold numbersL; refine List.map_congr_left fun i _ => ?_; omega
    rw [hn] at hs
    have := sub_lex hs
    rwa [show x.length = (h.rows.getD r dRow).places.toNat by omega] at this
  · intro hx
    obtain ⟨s1, s2⟩ := lex_sub _ _ x hx
    have hpw : x.Pairwise (· < ·) := (numbers_pair _).sublist s1
    unfold tilesE
    rw [if_neg (by rw [s2]; omega), if_neg (by
      rw [Bool.not_eq_true, List.any_eq_false]
      intro i hi
      have h1 := s1.subset hi
      unfold numbersL at h1
      obtain ⟨j, hj, rfl⟩ := List.mem_map.1 h1
      have := List.mem_range.1 hj
      simp [inB]; omega), if_neg (by rw [notAsc_any.2 hpw]; decide)]
/-- the layings are the rows of the list of all layings -/
theorem lay_mem {h : Hall} {l : List Seen} (hk : OkH h) : ∀ (k : Nat) (rows : List (List Int)) (used : List Int) (most g : Int), k ≤ h.rows.length → rows.length = k → (layingR h l rows (h.rows.length - k) used most = some g ↔ (rows, g) ∈ layL h l k used most) := by
  intro k
  induction k with
  | zero =>
    intro rows used most g _ hl
    have : rows = [] := List.eq_nil_of_length_eq_zero hl
    subst this
    rw [layingR, layL, List.mem_singleton]
    constructor
    · intro e; injection e with e; rw [e]
    · intro e; injection e with _ e; rw [e]
  | succ k ih =>
    intro rows used most g hk' hl
    cases rows with
    | nil => simp at hl
    | cons x rows =>
      have hl' : rows.length = k := by simpa using hl
      rw [layingR, layL, List.mem_flatMap]
      have hr1 : h.rows.length - (k + 1) + 1 = h.rows.length - k := by omega
      rw [hr1]
      constructor
      · intro e
        split at e
        · cases e
        · rename_i e1
          split at e
          · cases e
          · rename_i e2
            split at e
            · cases e
            · rename_i e3
              have e1 : tilesE h.tiles.length (h.rows.getD (h.rows.length - (k + 1)) dRow).places x = 0 := by simpa using e1
              have e3 : wrong8 h.most (gap8 h l (h.rows.length - (k + 1)) x) = 0 := by simpa using e3
              refine ⟨x, ?_, ?_⟩
              · unfold fitL
                exact List.mem_filter.2 ⟨(tiles_lex hk (by omega)).1 e1, by simpa using e3⟩
              · rw [if_pos (by
                  rw [List.all_eq_true]
                  intro i hi
                  have := List.any_eq_false.1 (Bool.not_eq_true _ ▸ e2) i hi
                  simpa using this)]
                exact List.mem_map.2 ⟨(rows, g), (ih rows _ _ g (by omega) hl').1 e, rfl⟩
      · rintro ⟨x', hx', hm⟩
        unfold fitL at hx'
        obtain ⟨m1, m2⟩ := List.mem_filter.1 hx'
        split at hm
        · rename_i hu
          obtain ⟨r', hr', he⟩ := List.mem_map.1 hm
          unfold headL at he
          injection he with he1 he2
          injection he1 with he1 he3
          subst he1; subst he2; subst he3
          rw [if_neg (by simpa using (tiles_lex hk (by omega)).2 m1), if_neg (by
            rw [Bool.not_eq_true, List.any_eq_false]
            intro i hi
            have := List.all_eq_true.1 hu i hi
            simpa using this), if_neg (by simpa using m2)]
          exact (ih _ _ _ _ (by omega) hl').2 hr'
        · cases hm
theorem lay_len {h : Hall} {l : List Seen} : ∀ (k : Nat) (used : List Int) (b : Int), ∀ r ∈ layL h l k used b, r.1.length = k := by
  intro k
  induction k with
  | zero => intro used b r hr; rw [layL, List.mem_singleton] at hr; subst hr; rfl
  | succ k ih =>
    intro used b r hr
    rw [layL, List.mem_flatMap] at hr
    obtain ⟨x, _, hr⟩ := hr
    split at hr
    · obtain ⟨r0, hr0, rfl⟩ := List.mem_map.1 hr
      show (x :: r0.1).length = k + 1
      rw [List.length_cons, ih _ _ r0 hr0]
    · cases hr
theorem layingT_iff {h : Hall} {l : List Seen} {rows : List (List Int)} {g : Int} (hk : OkH h) : layingT h l rows = (g, true) ↔ (rows, g) ∈ layL h l h.rows.length [] 0 := by
  unfold layingT
  constructor
  · intro e
    split at e
    · injection e with _ e; cases e
    · rename_i hl
      have hl : rows.length = h.rows.length := by simpa using hl
      have := (lay_mem (l := l) hk h.rows.length rows [] 0 g (Nat.le_refl _) hl).1
      rw [Nat.sub_self] at this
      refine this ?_
      split at e
      · injection e with _ e; cases e
      · rename_i g' hg
        injection e with e _
        rw [hg, e]
  · intro hm
    have hl := lay_len _ _ _ _ hm
    dsimp only at hl
    rw [if_neg (by simp [hl])]
    have := (lay_mem hk h.rows.length rows [] 0 g (Nat.le_refl _) hl).2 hm
    rw [Nat.sub_self] at this
    rw [this]
theorem layingT_true {h : Hall} {l : List Seen} {rows : List (List Int)} (e : (layingT h l rows).2 = true) : layingT h l rows = ((layingT h l rows).1, true) := by rw [← e]
/-- the law TileLaid -/
theorem laid_pack {h : Hall} {l : List Seen} (e1 : (seen8 h l).2 = 0) (ea : agree8 h l = true) :
    (layR h l = ([], 0, 8) ∧ bestR h l h.rows.length (numbersL h.tiles.length) 0 = none ∧ ∀ L, (layingT h l L).2 = false) ∨ ∃ rows g, layR h l = (rows, g, 0) ∧ bestR h l h.rows.length (numbersL h.tiles.length) 0 = some (rows, g) ∧ layingT h l rows = (g, true) ∧ ∀ L, (layingT h l L).2 = true → g ≤ (layingT h l L).1 := by
  have hk : OkH h := okH_of (seen_zero e1).1
  have hE : ¬ hallE h l ≠ 0 := by unfold hallE; rw [if_neg (by simp [e1]), if_neg (by rw [ea]; decide)]; decide
  unfold layR
  rw [if_neg hE]
  cases hb : bestR h l h.rows.length (numbersL h.tiles.length) 0 with
  | none =>
    refine .inl ⟨rfl, rfl, fun L => ?_⟩
    rw [best_all] at hb
    have hX := (least_none _).1 hb
    cases hq : (layingT h l L).2 with
    | false => rfl
    | true =>
      have := (layingT_iff hk).1 (layingT_true hq)
      rw [hX] at this
      cases this
  | some r =>
    obtain ⟨rows, g⟩ := r
    refine .inr ⟨rows, g, rfl, rfl, ?_, fun L hL => ?_⟩
    · rw [best_all] at hb
      unfold leastL at hb
      rcases (least_spec _ none).2.2 _ hb with h1 | h1
      · cases h1
      · exact (layingT_iff hk).2 h1
    · rw [best_all] at hb
      have hm := (layingT_iff hk).1 (layingT_true hL)
      obtain ⟨z, hz1, hz2⟩ := (least_spec _ none).1 _ hm
      unfold leastL at hb
      rw [hb] at hz1
      injection hz1 with hz1
      subst hz1
      exact hz2
/-- what is used before matters only for the tiles of the rows -/
theorem layingR_congr {h : Hall} {l : List Seen} : ∀ (rows : List (List Int)) (r : Nat) (u v : List Int) (most : Int), (∀ x ∈ rows, ∀ i ∈ x, (i ∈ u ↔ i ∈ v)) → layingR h l rows r u most = layingR h l rows r v most := by
  intro rows
  induction rows with
  | nil => intro r u v most _; rfl
  | cons x rows ih =>
    intro r u v most hc
    rw [layingR, layingR]
    have ha : x.any (fun i => decide (i ∈ u)) = x.any (fun i => decide (i ∈ v)) := by
      rw [Bool.eq_iff_iff, List.any_eq_true, List.any_eq_true]
      constructor
      · rintro ⟨i, hi, h1⟩
        exact ⟨i, hi, by simpa using (hc x List.mem_cons_self i hi).1 (by simpa using h1)⟩
      · rintro ⟨i, hi, h1⟩
        exact ⟨i, hi, by simpa using (hc x List.mem_cons_self i hi).2 (by simpa using h1)⟩
    rw [ha, ih (r + 1) (u ++ x) (v ++ x) _ (fun y hy i hi => by
      have := hc y (List.mem_cons_of_mem _ hy) i hi
      rw [List.mem_append, List.mem_append, this])]
/-- each laying has each tile without which there is none -/
theorem laying_has {h : Hall} {l : List Seen} {L : List (List Int)} {t : Int} (hk : OkH h) (hw : withoutR h l t = false) (hL : (layingT h l L).2 = true) : ∃ r : Nat, r < h.rows.length ∧ t ∈ L.getD r [] := by
  have hl : L.length = h.rows.length := by
    have := lay_len _ _ _ _ ((layingT_iff hk).1 (layingT_true hL))
    exact this
  by_cases hin : ∃ x ∈ L, t ∈ x
  · obtain ⟨x, hx, ht⟩ := hin
    obtain ⟨r, hr, rfl⟩ := List.getElem_of_mem hx
    exact ⟨r, by omega, by rw [List.getD_eq_getElem?_getD, List.getElem?_eq_getElem hr]; exact ht⟩
  · exfalso
    have hm := (layingT_iff hk).1 (layingT_true hL)
    have h1 := (lay_mem hk h.rows.length L [] 0 _ (Nat.le_refl _) hl).2 hm
    rw [layingR_congr L _ [] [t] 0 (fun x hx i hi => by
      constructor
      · intro h2; cases h2
      · intro h2
        rw [List.mem_singleton] at h2
        subst h2
        exact absurd ⟨x, hx, hi⟩ hin)] at h1
    have h2 := (lay_mem hk h.rows.length L [t] 0 _ (Nat.le_refl _) hl).1 h1
    rw [without_lay] at hw
    cases hb : leastL (layL h l h.rows.length [t] 0) with
    | none =>
      rw [(least_none _).1 hb] at h2
      cases h2
    | some r => rw [hb] at hw; cases hw
/-- the law TileMust -/
theorem must_pack {h : Hall} {l : List Seen} (e1 : (seen8 h l).2 = 0) (ea : agree8 h l = true) :
    (must8 h l = ([], 8) ∧ layR h l = ([], 0, 8)) ∨ ∃ rows g S, must8 h l = (S, 0) ∧ layR h l = (rows, g, 0) ∧ rows.length = h.rows.length ∧ (∀ t ∈ S, ∃ r : Nat, r < h.rows.length ∧ t ∈ rows.getD r []) ∧ (∀ L, (layingT h l L).2 = true → ∀ t ∈ S, ∃ r : Nat, r < h.rows.length ∧ t ∈ L.getD r []) ∧ (∀ t ∈ S, 0 ≤ t ∧ t < h.tiles.length) ∧ S.Pairwise (· < ·) ∧ ∀ k : Nat, k < h.tiles.length → ((k : Int) ∈ S ∨ withoutR h l k = true) := by
  have hk : OkH h := okH_of (seen_zero e1).1
  have hE : ¬ hallE h l ≠ 0 := by unfold hallE; rw [if_neg (by simp [e1]), if_neg (by rw [ea]; decide)]; decide
  unfold must8
  rw [if_neg hE]
  rcases laid_pack e1 ea with ⟨q1, q2, _⟩ | ⟨rows, g, q1, q2, q3, _⟩
  · rw [if_pos q2]; exact .inl ⟨rfl, q1⟩
  · rw [if_neg (by rw [q2]; intro e; cases e)]
    have hS : ∀ t ∈ (numbersL h.tiles.length).filter (fun t => !withoutR h l t), withoutR h l t = false := fun t ht => by
      have := (List.mem_filter.1 ht).2
      simpa using this
    have hl : rows.length = h.rows.length := by
      have := lay_len _ _ _ _ ((layingT_iff hk).1 q3)
      exact this
    refine .inr ⟨rows, g, _, rfl, q1, hl, fun t ht => laying_has hk (hS t ht) (by rw [q3]), fun L hL t ht => laying_has hk (hS t ht) hL, fun t ht => ?_, ?_, fun k hkt => ?_⟩
    · have h1 := (List.mem_filter.1 ht).1
      unfold numbersL at h1
      obtain ⟨j, hj, rfl⟩ := List.mem_map.1 h1
      have := List.mem_range.1 hj
      omega
    · exact (numbers_pair _).sublist List.filter_sublist
    · cases hw : withoutR h l k with
      | true => exact .inr rfl
      | false =>
        refine .inl (List.mem_filter.2 ⟨?_, by simp [hw]⟩)
        unfold numbersL
        exact List.mem_map.2 ⟨k, List.mem_range.2 hkt, rfl⟩

end Go.Proofs.Ytpbimgafafkjgaa

namespace Go.Proofs.Ytpbimgafafkjgaa
open Go.RowKit

theorem laying_bad1 {h : Hall} {l : List Seen} {x : List Int} {rows : List (List Int)} {r : Nat} {U : List Int} {mo : Int} (e : tilesE h.tiles.length (h.rows.getD r dRow).places x ≠ 0) : layingR h l (x :: rows) r U mo = none := by rw [layingR, if_pos e]
theorem laying_bad2 {h : Hall} {l : List Seen} {x : List Int} {rows : List (List Int)} {r : Nat} {U : List Int} {mo : Int} {y : Int} (hy : y ∈ x) (hu : y ∈ U) : layingR h l (x :: rows) r U mo = none := by
  rw [layingR]
  split
  · rfl
  · rw [if_pos (List.any_eq_true.2 ⟨y, hy, by simpa using hu⟩)]
theorem laying_bad3 {h : Hall} {l : List Seen} {x : List Int} {rows : List (List Int)} {r : Nat} {U : List Int} {mo : Int} (e : wrong8 h.most (gap8 h l r x) ≠ 0) : layingR h l (x :: rows) r U mo = none := by
  rw [layingR, if_pos e]
  split
  · rfl
  · split <;> rfl
theorem laying_next {h : Hall} {l : List Seen} {x : List Int} {rows : List (List Int)} {r : Nat} {U : List Int} {mo : Int} (e : tilesE h.tiles.length (h.rows.getD r dRow).places x = 0) (hu : ∀ y ∈ x, y ∉ U) (ew : wrong8 h.most (gap8 h l r x) = 0) : layingR h l (x :: rows) r U mo = layingR h l rows (r + 1) (U ++ x) (max mo (gap8 h l r x).2) := by
  rw [layingR, if_neg (fun hh => hh e), if_neg (by
    rw [Bool.not_eq_true, List.any_eq_false]
    intro y hy
    simpa using hu y hy), if_neg (fun hh => hh ew)]
theorem drop_at {α : Type} {rows : List α} {r : Nat} {x : α} (h : rows[r]? = some x) : rows.drop r = x :: rows.drop (r + 1) := by
  obtain ⟨hr, rfl⟩ := List.getElem?_eq_some_iff.1 h
  exact List.drop_eq_getElem_cons hr
theorem take_not {x : List Int} (h : x.Pairwise (· < ·)) {j : Nat} {y : Int} (hy : x[j]? = some y) : y ∉ x.take j := by
  intro hm
  obtain ⟨i, hi, e⟩ := List.getElem_of_mem hm
  obtain ⟨hj, rfl⟩ := List.getElem?_eq_some_iff.1 hy
  rw [List.length_take] at hi
  rw [List.getElem_take] at e
  have := List.pairwise_iff_getElem.1 h i j (by omega) hj (by omega)
  omega
/-- a new block of a span, as a value -/
def NewSpanV (B : Nat) (v : Value) (W : World) : Prop := ∃ g, B ≤ g ∧ v = .pointer (some ⟨g, 0, none⟩) ∧ Blk W g 23 #[.int .i64 0, .int .i64 0]
theorem NewSpanV.bl {B : Nat} {v : Value} {W V : World} (h : NewSpanV B v W) (hb : Below W.heap.size W V) : NewSpanV B v V := by
  obtain ⟨g, h1, h2, h3⟩ := h
  exact ⟨g, h1, h2, h3.bl hb⟩

set_option maxRecDepth 100000 in
set_option maxHeartbeats 8000000 in
theorem laying_any {S : Foot} {A B C D : Option Addr} {n ca m cb q cc rn rc : Nat} {h : Hall} {l : List Seen} {rows : List (List Int)} {alo ahi most : Int} (w : World) (g : HallAt (fun _ => True) w A n B m h) (gs : Seens (fun _ => True) w C q l) (gr : Rows S w D rn rows) (h1 : h.alo = alo) (h2 : h.ahi = ahi) (h3 : h.most = most) (he : (seen8 h l).2 = 0) (ha : agree8 h l = true) :
    Calls Try.prog 44 #[.agg #[.int .i64 alo, .int .i64 ahi, .int .i64 most, .slice A n ca, .slice B m cb], .slice C q cc, .slice D rn rc] w fun e w' => e = .returned (.tuple #[.int .i64 (layingT h l rows).1, .bool (layingT h l rows).2]) ∧ Below w.heap.size w w' := by
  obtain ⟨i0, hi0, hz0, hz1, hz2⟩ := info_parts infoI8
  have Hm := Lib.hid g.rs.len
  have Hn := Lib.hid g.ts.len
  have Hr := Lib.hid gr.1
  have hrle := gr.2.1
  obtain ⟨hk0, hq60, hsn0⟩ := seen_air he
  have HKK := Lib.hid hk0
  have HQ6 := Lib.hid hq60
  have HSN := Lib.hid hsn0
  have HAG := Lib.hid ha
  have hm3 : m ≤ 3 := by have := hk0.nr; rw [Hm.out] at this; exact this.2
  have hn8 : n ≤ 8 := by have := hk0.nt; rw [Hn.out] at this; exact this.2
  clear hk0 hq60 hsn0 he ha
  obtain ⟨W0, hW⟩ : ∃ W, w.alloc (.cells #[.int .i64 alo, .int .i64 ahi, .int .i64 most, .slice A n ca, .slice B m cb] 27) = W := ⟨_, rfl⟩
  obtain ⟨g0, hg0⟩ : ∃ g0, w.heap.size = g0 := ⟨_, rfl⟩
  have X : Blk W0 g0 27 #[.int .i64 alo, .int .i64 ahi, .int .i64 most, .slice A n ca, .slice B m cb] := by rw [← hW, ← hg0]; exact Blk.new _ _ _ rfl
  have HBW : Hid (Below w.heap.size w W0) := by rw [Hid, ← hW]; exact bl_alloc (Below.refl _ _) _ (Nat.le_refl _)
  have HG := Lib.hid (g.keep (Keeps.below HBW.out))
  have HS := Lib.hid (gs.keep SeenR.good (Keeps.below HBW.out))
  have GR := Lib.hid (gr.keep (SlR.good IntR.good) (Keeps.below HBW.out))
  have kk : Hid (∀ V, Below W0.heap.size W0 V → V.cell? ⟨g0, 0, none⟩ = some (.int .i64 alo) ∧ V.cell? ⟨g0, 1, none⟩ = some (.int .i64 ahi) ∧ V.cell? ⟨g0, 2, none⟩ = some (.int .i64 most) ∧ V.cell? ⟨g0, 3, none⟩ = some (.slice A n ca) ∧ V.cell? ⟨g0, 4, none⟩ = some (.slice B m cb)) :=
    fun V hb => ⟨(X.bl hb).cell 0, (X.bl hb).cell 1, (X.bl hb).cell 2, (X.bl hb).cell 3, (X.bl hb).cell 4⟩
  clear X g gs gr
  obtain ⟨x0, x1, x2, x3, x4⟩ := kk.out W0 (Below.refl _ _)
  go_enter Try.func44, Try.ntmps44
  by_cases hrm : rn = m
  · have hnb : ((rn : Int) != (m : Int)) = false := by rw [hrm]; simp
    have HLT : Hid (∀ o, layingR h l rows 0 [] 0 = o → layingT h l rows = match o with | none => (0, false) | some g => (g, true)) := fun o e => by
      unfold layingT
      rw [if_neg (by rw [Hr.out, Hm.out, hrm]; simp), e]
      all_goals (cases o <;> rfl)
    have HRM := Lib.hid hrm
    clear hrm
    go_wp2_with fail
    clear hW hnb
    clear x0 x1 x2 x3 x4
    go_loopw [8, 9, 10] (fun uv mv i wr => ∃ (r ul ucap : Nat) (Au : Option Addr) (U : List Int) (mo : Int), i = .int .i64 r ∧ uv = .slice Au ul ucap ∧ mv = .int .i64 mo ∧ r ≤ rn ∧ ul ≤ 8 * r ∧ OwnL IntR 1 (fun _ => False) wr W0.heap.size 3 (.slice Au ul ucap) U ∧ Hid (U.length = ul) ∧ Hid (layingR h l rows 0 [] 0 = layingR h l (rows.drop r) r U mo) ∧ Below W0.heap.size W0 wr) (fun _ _ i _ => rn - (intOf i).toNat)
    case atStart => exact ⟨0, 0, 0, none, [], 0, rfl, rfl, rfl, Nat.zero_le _, Nat.zero_le _, OwnL.nil _ _ _ _ _ _, rfl, rfl, Below.refl _ _⟩
    case round =>
      obtain ⟨r, ul, ucap, Au, U, mo, rfl, rfl, rfl, hr, hul, hO, Hul, HF, hB⟩ := hrel
      by_cases hlt : r < rn
      · have hri : (r : Int) < rn := by omega
        have hrm2 : r < m := by rw [← HRM.out]; exact hlt
        have hrl : r < h.rows.length := by rw [Hm.out]; exact hrm2
        obtain ⟨bD, oD, x, X, nx, cx, rfl, hcell, hX, Hx⟩ := Rows.get GR.out hlt
        have HDR : Hid (rows.drop r = x :: rows.drop (r + 1)) := drop_at Hx.out
        have HX := Lib.hid hX
        have HC := Lib.hid hcell
        have Hnx := Lib.hid hX.1
        obtain ⟨tE, htE⟩ : ∃ e, tilesE h.tiles.length (h.rows.getD r dRow).places x = e := ⟨_, rfl⟩
        have HTE := Lib.hid htE
        clear hcell hX htE
        obtain ⟨x0, x1, x2, x3, x4⟩ := kk.out wr hB
        go_wp2_with fail
        clear x0 x1 x2 x3 x4
        refine wp_region_list (fun W => Below wr.heap.size wr W) (fun w w' => Below w.heap.size w w')
          [isV (.agg #[.int .i64 alo, .int .i64 ahi, .int .i64 most, .slice A n ca, .slice B m cb]), isV (.int .i64 r), isV (.slice (some ⟨bD, oD, none⟩) rn rc), isV (.int .i64 r), isV (.pointer (some ⟨bD, oD + r, none⟩)), isV (.slice X nx cx), isV (.int .i64 tE)]
          (by kernel_rfl) (by kernel_rfl) (by kernel_rfl) (by simp) (by simp) (Below.refl _ _).drew ?stab ?step ?fin
        case stab => exact (StabL.is (StabL.is (StabL.is (StabL.is (StabL.is (StabL.is (StabL.is StabL.nil)))))))
        case step =>
          refine StepsL.is ?_ (StepsL.is ?_ (StepsL.is ?_ (StepsL.is ?_ (StepsL.is ?_ (StepsL.is ?_ (StepsL.is ?_ StepsL.nil))))))
          all_goals
            intro vs W K hC hD hU hK
            simp only [fillA, Act.put, List.setIfInBounds_toArray, List.set_cons_zero, List.set_cons_succ, Nat.zero_add, Nat.reduceAdd] at hK ⊢
            simp [waits, Region.binds] at hD
            try simp only [envOf, List.getD_cons_succ, List.getD_cons_zero, isV] at hD
            try simp only [hD] at hK ⊢
          · obtain ⟨x0, x1, x2, x3, x4⟩ := kk.out W (bl_call hB hC (Nat.le_refl _))
            go_simp; exact hK _ hC (Below.refl _ _)
          · go_simp; exact hK _ hC (Below.refl _ _)
          · go_simp; exact hK _ hC (Below.refl _ _)
          · go_simp; exact hK _ hC (Below.refl _ _)
          · go_simp; exact hK _ hC (Below.refl _ _)
          · have k0 := getc (bl_call hB hC (Nat.le_refl _)) HC.out
            go_simp; exact hK _ hC (Below.refl _ _)
          · go_simp
            refine (rtiles_any (row := r) (tl := x) W (HG.out.keep (Keeps.below (bl_call hB hC (Nat.le_refl _)))) (HX.out.keep IntR.good (Keeps.below (bl_call hB hC (Nat.le_refl _)))) rfl rfl rfl hrm2).mono ?_
            rintro e w' ⟨rfl, hb⟩
            rw [HTE.out]
            exact hK _ (bl_call hC hb (Nat.le_refl _)) hb
        case fin =>
          intro vs W hC hE hU
          have e6 : vs 6 = .int .i64 tE := hE 6 (by simp)
          simp only [fillA, Act.put, List.setIfInBounds_toArray, List.set_cons_zero, List.set_cons_succ, Nat.zero_add, Nat.reduceAdd, e6]
          obtain ⟨u0, hu0⟩ : ∃ v0, vs 0 = v0 := ⟨_, rfl⟩
          obtain ⟨u1, hu1⟩ : ∃ v0, vs 1 = v0 := ⟨_, rfl⟩
          obtain ⟨u2, hu2⟩ : ∃ v0, vs 2 = v0 := ⟨_, rfl⟩
          obtain ⟨u3, hu3⟩ : ∃ v0, vs 3 = v0 := ⟨_, rfl⟩
          obtain ⟨u4, hu4⟩ : ∃ v0, vs 4 = v0 := ⟨_, rfl⟩
          obtain ⟨u5, hu5⟩ : ∃ v0, vs 5 = v0 := ⟨_, rfl⟩
          rw [hu0, hu1, hu2, hu3, hu4, hu5]
          clear hu0 hu1 hu2 hu3 hu4 hu5
          clear hE hU e6
          have hB2 := bl_call hB hC (Nat.le_refl _)
          have hO2 := hO.below IntR.good hC
          clear hO hB hC
          by_cases hz : tE = 0
          · have hzb : (tE != 0) = false := by rw [hz]; simp
            have HZ : Hid (tilesE h.tiles.length (h.rows.getD r dRow).places x = 0) := HTE.out.trans hz
            clear hz HTE
            obtain ⟨hz1, hz2, hz3⟩ := tilesE_zero HZ.out
            have HTM : Hid (∀ i ∈ x, 0 ≤ i ∧ i < n) := fun i hi => by have := hz2 i hi; rw [Hn.out] at this; exact this
            have HPW : Hid (x.Pairwise (· < ·)) := notAsc_any.1 hz3
            have hnx8 : nx ≤ 8 := by
              have hs := (lex_sub _ _ x ((tiles_lex HKK.out hrl).1 HZ.out)).1.length_le
              rw [Hnx.out] at hs
              unfold numbersL at hs
              rw [List.length_map, List.length_range, Hn.out] at hs
              omega
            clear hz1 hz2 hz3
            go_simp
            go_wp2_with fail
            go_loopw [8, 11] (fun uv i wr2 => ∃ (j ul2 ucap2 : Nat) (Au2 : Option Addr), i = .int .i64 j ∧ uv = .slice Au2 ul2 ucap2 ∧ j ≤ nx ∧ ul2 ≤ ul + j ∧ OwnL IntR 1 (fun _ => False) wr2 W0.heap.size 3 (.slice Au2 ul2 ucap2) (U ++ x.take j) ∧ Hid ((U ++ x.take j).length = ul2) ∧ Hid (∀ y ∈ x.take j, y ∉ U) ∧ Below W0.heap.size W0 wr2) (fun _ i _ => nx - (intOf i).toNat)
            case atStart => exact ⟨0, ul, ucap, Au, rfl, rfl, Nat.zero_le _, by omega, by rw [List.take_zero, List.append_nil]; exact hO2, by rw [Hid, List.take_zero, List.append_nil]; exact Hul.out, fun y hy => by simp at hy, hB2⟩
            case round =>
              clear hO2 hB2
              obtain ⟨j, ul2, ucap2, Au2, rfl, rfl, hj, hul2, hO, Hul2, HNU, hB⟩ := hrel
              have k0 := getc hB HC.out
              by_cases hjn : j < nx
              · have hji : (j : Int) < nx := by omega
                obtain ⟨bx, ox, y, rfl, hcy, Hy⟩ := Ints.get (HX.out.keep IntR.good (Keeps.below hB)) hjn
                obtain ⟨mb, hmb⟩ : ∃ b, decide (y ∈ U ++ x.take j) = b := ⟨_, rfl⟩
                have HMB := Lib.hid hmb
                clear hmb
                have hI : Ints (fun k => W0.heap.size ≤ k) _ Au2 ul2 (U ++ x.take j) := hO.slice IntR.good rfl (by simp only [maxLen]; omega) (fun k h => h.elim) (fun k h1 h2 => h1)
                go_wp2_with fail
                refine (has_any y _ hI).mono ?_
                rintro e w2 ⟨rfl, rfl⟩
                rw [HMB.out]
                clear hI
                cases mb with
                | true =>
                  have hyU : y ∈ U := by
                    have := of_decide_eq_true HMB.out
                    rcases List.mem_append.1 this with h4 | h4
                    · exact h4
                    · exact absurd h4 (take_not HPW.out Hy.out)
                  have HE : Hid (layingT h l rows = (0, false)) := HLT.out none (by rw [HF.out, HDR.out]; exact laying_bad2 (List.mem_of_getElem? Hy.out) hyU)
                  clear hO k0 hcy hyU
                  go_wp2_with fail
                  go_ret2
                  exact ⟨by rw [HE.out]; rfl, bl_call HBW.out hB (Nat.le_refl _)⟩
                | false =>
                  have hyn : y ∉ U ++ x.take j := of_decide_eq_false HMB.out
                  have HS2 : Hid (U ++ x.take (j + 1) = (U ++ x.take j) ++ [y]) := by rw [Hid, take_snoc_get Hy.out, List.append_assoc]
                  have HNU2 : Hid (∀ y ∈ x.take (j + 1), y ∉ U) := fun z hz => by
                    rw [take_snoc_get Hy.out, List.mem_append, List.mem_singleton] at hz
                    rcases hz with hz | rfl
                    · exact HNU.out z hz
                    · exact fun h4 => hyn (List.mem_append_left _ h4)
                  clear hyn
                  go_wp2_with (at_builtin; refine wpList_append_n _ rfl (.tmp 51) (.tmp 59) _ rfl IntR.good W0.heap.size 3 i0 _ 8 Try.underlying39 hi0 hz0 hz1 hz2 rfl (by omega) _ (U ++ x.take j) y ul2 Hul2.out rfl (hO.alloc IntR.good _) ⟨_, 0, none⟩ 1 [.int .i64 y] rfl rfl (news_new rfl (by simp)) ?c1 ?c2 ?c3 (fun h => h) ?_)
                  case c1 => simp only [maxLen]; omega
                  case c2 => omega
                  case c3 => have := hB.size; simp; omega
                  intro A' cap' w3 hown2 hg2 hat2
                  have hB3 : Below W0.heap.size W0 w3 := bl_grown (bl_alloc hB _ (Nat.le_refl _)) (hO.alloc IntR.good _) hg2 (Nat.le_refl _) (Nat.le_refl _)
                  clear hg2 hat2 hO hB k0 hcy
                  go_wp2
                  go_roundw
                  case rel => exact ⟨j + 1, ul2 + 1, cap', _, by go_num, rfl, by omega, by omega, by rw [HS2.out, List.append_assoc]; exact hown2, by rw [Hid, HS2.out, List.length_append, Hul2.out]; rfl, HNU2, hB3⟩
                  case measure => simp [intOf]; omega
              · obtain rfl : j = nx := by omega
                have hji : ¬ (j : Int) < j := by omega
                have htk : x.take j = x := by rw [← Hnx.out, List.take_length]
                rw [htk] at hO Hul2 HNU
                clear htk hjn
                have HO := Lib.hid hO
                clear hO
                obtain ⟨g1, g2, hgg⟩ : ∃ a b, gap8 h l r x = (a, b) := ⟨_, _, rfl⟩
                have HGG := Lib.hid hgg
                clear hgg
                go_wp2_with fail
                clear k0
                refine wp_region_list (fun W => Below wr.heap.size wr W) (fun w w' => Below w.heap.size w w')
                  [isV (.agg #[.int .i64 alo, .int .i64 ahi, .int .i64 most, .slice A n ca, .slice B m cb]), isV (.slice C q cc), isV (.int .i64 r), isV (.slice (some ⟨bD, oD, none⟩) rn rc), isV (.int .i64 r), isV (.pointer (some ⟨bD, oD + r, none⟩)), isV (.slice X j cx), isV (.agg #[.int .i64 g1, .int .i64 g2]), NewSpanV wr.heap.size]
                  (by kernel_rfl) (by kernel_rfl) (by kernel_rfl) (by simp) (by simp) (Below.refl _ _).drew ?stab ?step ?fin
                case stab => exact (StabL.is (StabL.is (StabL.is (StabL.is (StabL.is (StabL.is (StabL.is (StabL.is (StabL.cons (fun v W V hC hX hq => NewSpanV.bl hq hX) StabL.nil)))))))))
                case step =>
                  refine StepsL.is ?_ (StepsL.is ?_ (StepsL.is ?_ (StepsL.is ?_ (StepsL.is ?_ (StepsL.is ?_ (StepsL.is ?_ (StepsL.is ?_ (StepsL.cons ?_ StepsL.nil))))))))
                  all_goals
                    intro vs W K hC hD hU hK
                    simp only [fillA, Act.put, List.setIfInBounds_toArray, List.set_cons_zero, List.set_cons_succ, Nat.zero_add, Nat.reduceAdd] at hK ⊢
                    simp [waits, Region.binds] at hD
                    try simp only [envOf, List.getD_cons_succ, List.getD_cons_zero, isV] at hD
                    try simp only [hD] at hK ⊢
                  · obtain ⟨x0, x1, x2, x3, x4⟩ := kk.out W (bl_call hB hC (Nat.le_refl _))
                    go_simp; exact hK _ hC (Below.refl _ _)
                  · go_simp; exact hK _ hC (Below.refl _ _)
                  · go_simp; exact hK _ hC (Below.refl _ _)
                  · go_simp; exact hK _ hC (Below.refl _ _)
                  · go_simp; exact hK _ hC (Below.refl _ _)
                  · go_simp; exact hK _ hC (Below.refl _ _)
                  · have k0 := getc (bl_call hB hC (Nat.le_refl _)) HC.out
                    go_simp; exact hK _ hC (Below.refl _ _)
                  · go_simp
                    refine (rall_any (row := r) (tl := x) (ca := ca) (cb := cb) (cc := cc) (c := cx) W (HG.out.keep (Keeps.below (bl_call hB hC (Nat.le_refl _)))) (HS.out.keep SeenR.good (Keeps.below (bl_call hB hC (Nat.le_refl _)))) h1 h2 rfl HKK.out HQ6.out HSN.out HAG.out hrm2 (HX.out.keep IntR.good (Keeps.below (bl_call hB hC (Nat.le_refl _)))) hnx8 HTM.out).mono ?_
                    rintro e w' ⟨rfl, hb⟩
                    rw [HGG.out]
                    exact hK _ (bl_call hC hb (Nat.le_refl _)) hb
                  · go_simp
                    exact hK _ _ (bl_alloc hC _ (Nat.le_refl _)) (bl_alloc (Below.refl _ _) _ (Nat.le_refl _)) ⟨_, hC.size, rfl, Blk.new _ _ _ rfl⟩
                case fin =>
                  intro vs W hC hE hU
                  have e7 : vs 7 = .agg #[.int .i64 g1, .int .i64 g2] := hE 7 (by simp)
                  have e8 : NewSpanV wr.heap.size (vs 8) W := hE 8 (by simp)
                  simp only [fillA, Act.put, List.setIfInBounds_toArray, List.set_cons_zero, List.set_cons_succ, Nat.zero_add, Nat.reduceAdd, e7]
                  obtain ⟨g12, hg12, e8, hB12⟩ := e8
                  rw [e8]
                  obtain ⟨u0, hu0⟩ : ∃ v0, vs 0 = v0 := ⟨_, rfl⟩
                  obtain ⟨u1, hu1⟩ : ∃ v0, vs 1 = v0 := ⟨_, rfl⟩
                  obtain ⟨u2, hu2⟩ : ∃ v0, vs 2 = v0 := ⟨_, rfl⟩
                  obtain ⟨u3, hu3⟩ : ∃ v0, vs 3 = v0 := ⟨_, rfl⟩
                  obtain ⟨u4, hu4⟩ : ∃ v0, vs 4 = v0 := ⟨_, rfl⟩
                  obtain ⟨u5, hu5⟩ : ∃ v0, vs 5 = v0 := ⟨_, rfl⟩
                  obtain ⟨u6, hu6⟩ : ∃ v0, vs 6 = v0 := ⟨_, rfl⟩
                  rw [hu0, hu1, hu2, hu3, hu4, hu5, hu6]
                  clear hu0 hu1 hu2 hu3 hu4 hu5 hu6
                  clear hE hU e7 e8
                  have z0 := hB12.c0
                  have z1 := hB12.c1
                  have fz0 := hB12.frozen 0
                  have fz1 := hB12.frozen 1
                  have hlz := hB12.lt
                  have hO3 := HO.out.below IntR.good hC
                  have hB3 := bl_call hB hC (Nat.le_refl _)
                  obtain ⟨U1, hU1⟩ : ∃ V, (W.setCell ⟨g12, 0, none⟩ (.int .i64 g1)).setCell ⟨g12, 1, none⟩ (.int .i64 g2) = V := ⟨_, rfl⟩
                  have G12 : Blk U1 g12 23 #[.int .i64 g1, .int .i64 g2] := by rw [← hU1]; exact hB12.set2 _ _
                  have hwg : wr.heap.size ≤ g12 := hg12
                  have hW0g : W0.heap.size ≤ g12 := by have := hB.size; omega
                  have hB4 : Below W0.heap.size W0 U1 := by rw [← hU1]; exact bl_set (bl_set hB3 hW0g _) hW0g _
                  have hC4 : Below wr.heap.size wr U1 := by rw [← hU1]; exact bl_set (bl_set hC hwg _) hwg _
                  have HO4 : Hid (OwnL IntR 1 (fun _ => False) U1 W0.heap.size 3 (.slice Au2 ul2 ucap2) (U ++ x)) := HO.out.below IntR.good hC4
                  clear hO3 hB3 hC hC4 hB12 hB HO hwg hW0g
                  have y0 := G12.c0
                  have y1 := G12.c1
                  obtain ⟨x0, x1, x2, x3, x4⟩ := kk.out U1 hB4
                  go_simp
                  go_wp2_with fail
                  clear x0 x1 x2 x3 x4
                  clear z0 z1 fz0 fz1 hlz y0 y1 hU1
                  refine (wrong_any most g1 g2 U1 rfl rfl rfl rfl).mono ?_
                  rintro e U2 ⟨rfl, c2⟩
                  obtain ⟨wE, hwE⟩ : ∃ x, wrong8 most (g1, g2) = x := ⟨_, rfl⟩
                  rw [hwE]
                  have hB5 := bl_call hB4 c2 (Nat.le_refl _)
                  by_cases hw0 : wE = 0
                  · have hwb : (wE != 0) = false := by rw [hw0]; simp
                    have y1 := (G12.bl c2).c1
                    have HO5 : Hid (OwnL IntR 1 (fun _ => False) U2 W0.heap.size 3 (.slice Au2 ul2 ucap2) (U ++ x)) := HO4.out.below IntR.good c2
                    have HNX : Hid (layingR h l rows 0 [] 0 = layingR h l (rows.drop (r + 1)) (r + 1) (U ++ x) (max mo g2)) := by
                      rw [Hid, HF.out, HDR.out, laying_next HZ.out HNU.out (by rw [h3, HGG.out, hwE]; exact hw0), HGG.out]
                    clear hwE hw0 c2 G12 hB4 HO4
                    go_wp2_with fail
                    go_roundw
                    case rel => exact ⟨r + 1, ul2, ucap2, Au2, U ++ x, max mo g2, by go_num, rfl, rfl, by omega, by omega, HO5.out, Hul2, HNX, hB5⟩
                    case measure => simp [intOf]; omega
                  · have hwb : (wE != 0) = true := by simpa using hw0
                    have HE : Hid (layingT h l rows = (0, false)) := HLT.out none (by rw [HF.out, HDR.out]; exact laying_bad3 (by rw [h3, HGG.out, hwE]; exact hw0))
                    clear hwE hw0 c2 G12 hB4 HO4
                    go_wp2_with fail
                    go_ret2
                    exact ⟨by rw [HE.out]; rfl, bl_call HBW.out hB5 (Nat.le_refl _)⟩
          · have hzb : (tE != 0) = true := by simpa using hz
            have HE : Hid (layingT h l rows = (0, false)) := HLT.out none (by rw [HF.out, HDR.out]; exact laying_bad1 (by rw [HTE.out]; exact hz))
            clear hz hO2
            go_simp
            go_wp2_with fail
            go_ret2
            exact ⟨by rw [HE.out]; rfl, bl_call HBW.out hB2 (Nat.le_refl _)⟩
      · obtain rfl : r = rn := by omega
        have HE : Hid (layingT h l rows = (mo, true)) := by
          rw [Hid]
          refine HLT.out (some mo) ?_
          rw [HF.out, List.drop_eq_nil_of_le (by rw [Hr.out]; exact Nat.le_refl _), layingR]
        clear hO
        go_wp2_with fail
        go_ret2
        exact ⟨by rw [HE.out]; rfl, bl_call HBW.out hB (Nat.le_refl _)⟩
  · have hnb : ((rn : Int) != (m : Int)) = true := by simp; omega
    have HLT : Hid (layingT h l rows = (0, false)) := by
      unfold layingT
      rw [Hid, if_pos (by rw [Hr.out, Hm.out]; exact hrm)]
    go_wp2_with fail
    go_ret2
    exact ⟨by rw [HLT.out]; rfl, HBW.out⟩

end Go.Proofs.Ytpbimgafafkjgaa

namespace Go.Proofs.Ytpbimgafafkjgaa
open Go.RowKit

/-- one more tile, into the row with this number, if it has places left -/
def layStep (h : Hall) (xs : List Nat) (L : List (List Int)) (i : Nat) : List (List Int) :=
  if turnL xs i % (h.rows.length + 1) < h.rows.length ∧ ((L.getD (turnL xs i % (h.rows.length + 1)) []).length : Int) < (h.rows.getD (turnL xs i % (h.rows.length + 1)) dRow).places then L.set (turnL xs i % (h.rows.length + 1)) (L.getD (turnL xs i % (h.rows.length + 1)) [] ++ [(i : Int)]) else L
def layoutK (h : Hall) (xs : List Nat) (k : Nat) : List (List Int) := (List.range k).foldl (layStep h xs) (List.replicate h.rows.length [])
def layoutL (h : Hall) (xs : List Nat) : List (List Int) := layoutK h xs h.tiles.length
theorem layoutK_succ (h : Hall) (xs : List Nat) (k : Nat) : layoutK h xs (k + 1) = layStep h xs (layoutK h xs k) k := by unfold layoutK; rw [List.range_succ, List.foldl_append]; rfl
theorem layStep_len (h : Hall) (xs : List Nat) (L : List (List Int)) (i : Nat) : (layStep h xs L i).length = L.length := by
  unfold layStep
  split
  · rw [List.length_set]
  · rfl
theorem layStep_yes {h : Hall} {xs : List Nat} {L : List (List Int)} {i r : Nat} {y : List Int} (hr : turnL xs i % (h.rows.length + 1) = r) (hL : L[r]? = some y) (h1 : r < h.rows.length) (h2 : (y.length : Int) < (h.rows.getD r dRow).places) : layStep h xs L i = L.set r (y ++ [(i : Int)]) := by
  have hg : L.getD r [] = y := by rw [List.getD_eq_getElem?_getD, hL]; rfl
  unfold layStep
  rw [hr, hg, if_pos ⟨h1, h2⟩]
theorem layStep_out {h : Hall} {xs : List Nat} {L : List (List Int)} {i r : Nat} (hr : turnL xs i % (h.rows.length + 1) = r) (h1 : ¬ r < h.rows.length) : layStep h xs L i = L := by
  unfold layStep
  rw [hr, if_neg (fun hh => h1 hh.1)]
theorem layStep_full {h : Hall} {xs : List Nat} {L : List (List Int)} {i r : Nat} {y : List Int} (hr : turnL xs i % (h.rows.length + 1) = r) (hL : L[r]? = some y) (h2 : ¬ (y.length : Int) < (h.rows.getD r dRow).places) : layStep h xs L i = L := by
  have hg : L.getD r [] = y := by rw [List.getD_eq_getElem?_getD, hL]; rfl
  unfold layStep
  rw [hr, hg, if_neg (fun hh => h2 hh.2)]

theorem own_blk {α : Type} {R : Rd α} {m : Nat} {S : Foot} {w : World} {base : Nat} {e : TypeId} {v : Value} {xs : List α} (h : OwnL R m S w base e v xs) {k : Nat} (hk : v.ownBlock = some k) : ∃ cur, Blk w k e cur := by
  obtain ⟨_, cells, ho, _⟩ := h
  rcases ho.2 with ⟨e, _⟩ | ⟨gb, cap, cur, e, _, hgg, _⟩
  · subst e; simp [Value.ownBlock] at hk
  · subst e
    have : gb = k := by simpa [Value.ownBlock] using hk
    subst this
    exact ⟨cur, hgg⟩
theorem own_grown {α : Type} {R : Rd α} {m : Nat} {S : Foot} {w w' : World} {base : Nat} {e : TypeId} {v : Value} {xs : List α} (g : R.Good m) (h : OwnL R m S w base e v xs) {row : Option Nat} (hg : w.grownBy w' row) (hr : ∀ k, row = some k → ¬ S k ∧ v.ownBlock ≠ some k) : OwnL R m S w' base e v xs :=
  h.keep g (Keeps.grown hg fun k hk hc => by rcases hc with hc | hc; exact (hr k hk).1 hc; exact (hr k hk).2 hc)
theorem own_max {α : Type} {R : Rd α} {m : Nat} {S : Foot} {w : World} {base : Nat} {e : TypeId} {v : Value} {xs : List α} (h : OwnL R m S w base e v xs) : xs.length ≤ maxLen := by
  obtain ⟨_, cells, ho, _⟩ := h
  rcases ho.2 with ⟨_, h0⟩ | ⟨gb, cap, cur, _, _, _, h1, h2, _⟩
  · rw [h0]; exact Nat.zero_le _
  · exact Nat.le_trans h1 h2
theorem blk_ty {w : World} {g : Nat} {t1 t2 : TypeId} {c1 c2 : Array Value} (h1 : Blk w g t1 c1) (h2 : Blk w g t2 c2) : t1 = t2 := by
  have e := h1.symm.trans h2
  injection e with e
  injection e

/-- rows of the call's own: a block of slices, each one of its own -/
structure RowsOwn (B : Nat) (w : World) (G m : Nat) (L : List (List Int)) (cs : Array Value) : Prop where
  blk : Blk w G 39 cs
  size : cs.size = m
  len : L.length = m
  own : ∀ (j : Nat) (y : List Int), L[j]? = some y → ∃ v, cs[j]? = some v ∧ OwnL IntR 1 (fun _ => False) w B 3 v y
  apart : ∀ (i j : Nat) (vi vj : Value), i ≠ j → cs[i]? = some vi → cs[j]? = some vj → ∀ k, vi.ownBlock = some k → vj.ownBlock ≠ some k
theorem RowsOwn.bl {B : Nat} {w w' : World} {G m : Nat} {L : List (List Int)} {cs : Array Value} (h : RowsOwn B w G m L cs) (hb : Below w.heap.size w w') : RowsOwn B w' G m L cs :=
  ⟨h.blk.bl hb, h.size, h.len, fun j y hy => by obtain ⟨v, h1, h2⟩ := h.own j y hy; exact ⟨v, h1, h2.below IntR.good hb⟩, h.apart⟩
theorem RowsOwn.made {B : Nat} {w : World} {G m : Nat} (h : Blk w G 39 (madeCells #[.slice none 0 0] m)) : RowsOwn B w G m (List.replicate m []) (madeCells #[.slice none 0 0] m) := by
  refine ⟨h, by rw [made_rep]; simp, by simp, fun j y hy => ?_, fun i j vi vj _ h1 _ k hk => ?_⟩
  · have hj : j < m := by have := of_getq' hy; simpa using this
    have hy2 : y = [] := by rw [List.getElem?_replicate, if_pos hj] at hy; injection hy with hy; exact hy.symm
    subst hy2
    exact ⟨.slice none 0 0, by rw [made_rep, Array.getElem?_replicate, if_pos hj], OwnL.nil _ _ _ _ _ _⟩
  · rw [made_rep, Array.getElem?_replicate] at h1
    split at h1
    · injection h1 with h1; subst h1; simp [Value.ownBlock] at hk
    · cases h1
theorem RowsOwn.put {B : Nat} {w w2 : World} {G m : Nat} {L : List (List Int)} {cs : Array Value} {r : Nat} {y : List Int} {v v' : Value} {i : Int} (h : RowsOwn B w G m L cs) (hL : L[r]? = some y) (hv : cs[r]? = some v) (hg : w.grownBy w2 v.ownBlock) (hown : OwnL IntR 1 (fun _ => False) w2 B 3 v' (y ++ [i])) (hat : ∀ k, v'.ownBlock = some k → v.ownBlock = some k ∨ k = w.heap.size) :
    RowsOwn B (w2.setCell ⟨G, r, none⟩ v') G m (L.set r (y ++ [i])) (cs.setIfInBounds r v') := by
  have hrm : r < m := by rw [← h.len]; exact of_getq' hL
  obtain ⟨v0, hv0, hO0⟩ := h.own r y hL
  rw [hv] at hv0
  injection hv0 with hv0
  subst hv0
  have hGv : some G ≠ v.ownBlock := fun e => by
    obtain ⟨cur, hc⟩ := own_blk hO0 e.symm
    exact absurd (blk_ty hc h.blk) (by decide)
  have hG2 : Blk w2 G 39 cs := h.blk.grown hg hGv
  have hset : ∀ {v' : Value} {z : List Int}, OwnL IntR 1 (fun _ => False) w2 B 3 v' z → ∀ u, OwnL IntR 1 (fun _ => False) (w2.setCell ⟨G, r, none⟩ u) B 3 v' z := fun hO u =>
    hO.keep IntR.good (Keeps.setCell _ _ _ (fun hh => by
      rcases hh with hh | hh
      · exact hh
      · obtain ⟨cur, hc⟩ := own_blk hO hh
        exact absurd (blk_ty hc hG2) (by decide)))
  have hsz : (cs.setIfInBounds r v')[r]? = some v' := by
    rw [Array.getElem?_setIfInBounds, if_pos rfl, if_pos (by rw [h.size]; exact hrm)]
  refine ⟨hG2.set_ r v', by rw [Array.size_setIfInBounds, h.size], by rw [List.length_set, h.len], fun j z hz => ?_, fun a b va vb hab ha hb k hk => ?_⟩
  · by_cases hj : r = j
    · subst hj
      rw [List.getElem?_set, if_pos rfl, if_pos (by rw [h.len]; exact hrm)] at hz
      injection hz with hz
      subst hz
      exact ⟨v', hsz, hset hown v'⟩
    · rw [List.getElem?_set, if_neg hj] at hz
      obtain ⟨u, hu1, hu2⟩ := h.own j z hz
      refine ⟨u, by rw [Array.getElem?_setIfInBounds, if_neg hj]; exact hu1, hset (own_grown IntR.good hu2 hg fun k hk => ⟨fun hf => hf, ?_⟩) v'⟩
      exact h.apart r j v u hj hv hu1 k hk
  · have hold : ∀ (c : Nat) (vc : Value), r ≠ c → (cs.setIfInBounds r v')[c]? = some vc → cs[c]? = some vc := fun c vc hc h1 => by rwa [Array.getElem?_setIfInBounds, if_neg hc] at h1
    have hlow : ∀ (c : Nat) (vc : Value), cs[c]? = some vc → ∀ k, vc.ownBlock = some k → k < w.heap.size := fun c vc hc k hk => by
      have hcm : c < L.length := by
        rw [h.len, ← h.size]
        exact (Array.getElem?_eq_some_iff.1 hc).1
      obtain ⟨u, hu1, hu2⟩ := h.own c _ (List.getElem?_eq_getElem hcm)
      rw [hc] at hu1
      injection hu1 with hu1
      subst hu1
      exact (hu2.block k hk).2
    by_cases hra : r = a
    · subst hra
      rw [hsz] at ha
      injection ha with ha
      subst ha
      have hb' := hold b vb hab hb
      rcases hat k hk with h1 | h1
      · exact h.apart r b v vb hab hv hb' k h1
      · intro h2
        have := hlow b vb hb' k h2
        omega
    · have ha' := hold a va hra ha
      by_cases hrb : r = b
      · subst hrb
        rw [hsz] at hb
        injection hb with hb
        subst hb
        intro h2
        rcases hat k h2 with h1 | h1
        · exact h.apart a r va v hab ha' hv k hk h1
        · have := hlow a va ha' k hk
          omega
      · exact h.apart a b va vb hab ha' (hold b vb hrb hb) k hk
theorem RowsOwn.rows {B : Nat} {w : World} {G m : Nat} {L : List (List Int)} {cs : Array Value} (h : RowsOwn B w G m L cs) (hm : m ≤ maxLen) (hG : B ≤ G) : Rows (fun k => B ≤ k) w (some ⟨G, 0, none⟩) m L := by
  refine ⟨h.len, hm, fun k x hx => ?_⟩
  obtain ⟨v, hv, hO⟩ := h.own k x hx
  obtain ⟨A, c, rfl⟩ := hO.form
  refine ⟨G, 0, [.slice A x.length c], rfl, hG, h.blk.lt, ⟨A, x.length, c, rfl, hO.slice IntR.good rfl (own_max hO) (fun _ hf => hf.elim) (fun k h1 h2 => h1)⟩, fun j u hu => ?_⟩
  have hj : j = 0 := by have := of_getq' hu; simpa using this
  subst hj
  simp at hu
  subst hu
  have := h.blk.cell k
  rw [hv] at this
  simpa using this

def IsRowsN (w0 m : Nat) (L : List (List Int)) (e : Ending) (w' : World) : Prop := ∃ (A' : Option Addr) (c : Nat), e = .returned (.slice A' m c) ∧ Rows (fun k => w0 ≤ k) w' A' m L

set_option maxRecDepth 100000 in
set_option maxHeartbeats 8000000 in
theorem layout_any {S : Foot} {A B C : Option Addr} {n ca m cb q cc : Nat} {h : Hall} {xs : List Nat} {v1 v2 v3 : Value} (w : World) (g : HallAt (fun _ => True) w A n B m h) (gx : Bytes S w C q xs) (hv1 : v1.oneCell' = true) (hv2 : v2.oneCell' = true) (hv3 : v3.oneCell' = true) (hk : OkH h) :
    Calls Try.prog 45 #[.agg #[v1, v2, v3, .slice A n ca, .slice B m cb], .slice C q cc] w fun e w' => IsRowsN w.heap.size m (layoutL h xs) e w' ∧ Below w.heap.size w w' := by
  obtain ⟨i0, hi0, hz0, hz1, hz2⟩ := info_parts infoI8
  have Hm := Lib.hid g.rs.len
  have Hn := Lib.hid g.ts.len
  have HKK := Lib.hid hk
  have hm1 : 1 ≤ m ∧ m ≤ 3 := by have := hk.nr; rw [Hm.out] at this; exact this
  have hn1 : 1 ≤ n ∧ n ≤ 8 := by have := hk.nt; rw [Hn.out] at this; exact this
  clear hk
  obtain ⟨W0, hW⟩ : ∃ W, w.alloc (.cells #[v1, v2, v3, .slice A n ca, .slice B m cb] 27) = W := ⟨_, rfl⟩
  obtain ⟨g0, hg0⟩ : ∃ g0, w.heap.size = g0 := ⟨_, rfl⟩
  have X : Blk W0 g0 27 #[v1, v2, v3, .slice A n ca, .slice B m cb] := by rw [← hW, ← hg0]; exact Blk.new _ _ _ rfl
  have HBW : Hid (Below w.heap.size w W0) := by rw [Hid, ← hW]; exact bl_alloc (Below.refl _ _) _ (Nat.le_refl _)
  have HG := Lib.hid (g.keep (Keeps.below HBW.out))
  have HX := Lib.hid (gx.keep ByteR.good (Keeps.below HBW.out))
  have kk : Hid (∀ V, Below W0.heap.size W0 V → V.cell? ⟨g0, 3, none⟩ = some (.slice A n ca) ∧ V.cell? ⟨g0, 4, none⟩ = some (.slice B m cb)) :=
    fun V hb => ⟨(X.bl hb).cell 3, (X.bl hb).cell 4⟩
  have HBG : Hid (Below g0 w W0 ∧ g0 ≤ W0.heap.size ∧ w.heap.size = g0) := ⟨by rw [← hg0]; exact HBW.out, by rw [← hg0]; exact HBW.out.size, hg0⟩
  clear X g gx
  have hmk := run_make_row' (P := Try.prog) 45 39 (.slice none 0 0) 24 Try.underlying45 infoInts rfl .i64 .i64 m (by omega) (by omega)
  obtain ⟨G, hG⟩ : ∃ G, W0.heap.size = G := ⟨_, rfl⟩
  obtain ⟨W1, hW1⟩ : ∃ W, W0.alloc (.cells (madeCells #[.slice none 0 0] m) 39) = W := ⟨_, rfl⟩
  have HRO : Hid (RowsOwn W0.heap.size W1 G m (layoutK h xs 0) (madeCells #[.slice none 0 0] m)) := by
    have : layoutK h xs 0 = List.replicate m [] := by unfold layoutK; rw [Hm.out]; rfl
    rw [Hid, this]
    exact RowsOwn.made (by rw [← hW1]; exact Blk.new _ _ _ hG.symm)
  have hb1 : Below W0.heap.size W0 W1 := by rw [← hW1]; exact bl_alloc (Below.refl _ _) _ (Nat.le_refl _)
  have HGB : Hid (W0.heap.size ≤ G) := by rw [Hid, hG]; exact Nat.le_refl _
  obtain ⟨x3, x4⟩ := kk.out W0 (Below.refl _ _)
  go_enter Try.func45, Try.ntmps45
  go_wp2_with fail
  clear hW x3 x4 hW1 hmk hG
  have hRO := HRO.out
  clear HRO
  go_loopw [6, 7] (fun i _ wr => ∃ (k : Nat) (cs : Array Value), i = .int .i64 k ∧ k ≤ n ∧ RowsOwn W0.heap.size wr G m (layoutK h xs k) cs ∧ Below W0.heap.size W0 wr) (fun i _ _ => n - (intOf i).toNat)
  case atStart => exact ⟨0, _, rfl, Nat.zero_le _, hRO, hb1⟩
  case round =>
    clear hb1 hRO
    obtain ⟨k, cs, rfl, hk, hRO, hB⟩ := hrel
    obtain ⟨x3, x4⟩ := kk.out wr hB
    by_cases hlt : k < n
    · have hki : (k : Int) < n := by omega
      have HRO := Lib.hid hRO
      clear hRO
      obtain ⟨tv, htv⟩ : ∃ t, turnL xs k = t := ⟨_, rfl⟩
      have HTV := Lib.hid htv
      obtain ⟨r, hr⟩ : ∃ r, tv % (m + 1) = r := ⟨_, rfl⟩
      have hrm : r < m + 1 := by rw [← hr]; exact Nat.mod_lt _ (by omega)
      have hmod : ((tv : Int)).tmod ((m : Int) + 1) = (r : Int) := by
        rw [Int.tmod_eq_emod_of_nonneg (by omega), ← hr]; rfl
      have HR : Hid (turnL xs k % (h.rows.length + 1) = r) := by rw [Hid, htv, Hm.out, hr]
      have hw25 : IntKind.i64.wrap ((m : Int) + 1) = (m : Int) + 1 := by rw [IntKind.wrap_i64]; omega
      have hmz : ¬ ((m : Int) + 1) = 0 := by omega
      have hmz2 : (((m : Int) + 1) == 0) = false := by simp; omega
      clear htv hr
      go_wp2_with fail
      clear x3 x4
      refine wp_region_list (fun W => Below wr.heap.size wr W) (fun w w' => Below w.heap.size w w')
        [isV (.slice C q cc), isV (.int .i64 k), isV (.int .i64 tv), isV (.pointer (some ⟨g0, 4, none⟩)), isV (.slice B m cb), isV (.int .i64 m), isV (.int .i64 ((m : Int) + 1)), isV (.int .i64 r)]
        (by kernel_rfl) (by kernel_rfl) (by kernel_rfl) (by simp) (by simp) (Below.refl _ _).drew ?stab ?step ?fin
      case stab => exact (StabL.is (StabL.is (StabL.is (StabL.is (StabL.is (StabL.is (StabL.is (StabL.is StabL.nil))))))))
      case step =>
        refine StepsL.is ?_ (StepsL.is ?_ (StepsL.is ?_ (StepsL.is ?_ (StepsL.is ?_ (StepsL.is ?_ (StepsL.is ?_ (StepsL.is ?_ StepsL.nil)))))))
        all_goals
          intro vs W K hC hD hU hK
          simp only [fillA, Act.put, List.setIfInBounds_toArray, List.set_cons_zero, List.set_cons_succ, Nat.zero_add, Nat.reduceAdd] at hK ⊢
          simp [waits, Region.binds] at hD
          try simp only [envOf, List.getD_cons_succ, List.getD_cons_zero, isV] at hD
          try simp only [hD] at hK ⊢
        · go_simp; exact hK _ hC (Below.refl _ _)
        · go_simp; exact hK _ hC (Below.refl _ _)
        · go_simp
          refine (turn_any k W (HX.out.keep ByteR.good (Keeps.below (bl_call hB hC (Nat.le_refl _))))).mono ?_
          rintro e w' ⟨rfl, rfl⟩
          rw [HTV.out]
          exact hK _ hC (Below.refl _ _)
        · go_simp; exact hK _ hC (Below.refl _ _)
        · obtain ⟨x3, x4⟩ := kk.out W (bl_call hB hC (Nat.le_refl _))
          go_simp; exact hK _ hC (Below.refl _ _)
        · go_simp; exact hK _ hC (Below.refl _ _)
        · go_simp; exact hK _ hC (Below.refl _ _)
        · go_simp; exact hK _ hC (Below.refl _ _)
      case fin =>
        intro vs W hC hE hU
        have e7 : vs 7 = .int .i64 r := hE 7 (by simp)
        simp only [fillA, Act.put, List.setIfInBounds_toArray, List.set_cons_zero, List.set_cons_succ, Nat.zero_add, Nat.reduceAdd, e7]
        obtain ⟨u0, hu0⟩ : ∃ v0, vs 0 = v0 := ⟨_, rfl⟩
        obtain ⟨u1, hu1⟩ : ∃ v0, vs 1 = v0 := ⟨_, rfl⟩
        obtain ⟨u2, hu2⟩ : ∃ v0, vs 2 = v0 := ⟨_, rfl⟩
        obtain ⟨u3, hu3⟩ : ∃ v0, vs 3 = v0 := ⟨_, rfl⟩
        obtain ⟨u4, hu4⟩ : ∃ v0, vs 4 = v0 := ⟨_, rfl⟩
        obtain ⟨u5, hu5⟩ : ∃ v0, vs 5 = v0 := ⟨_, rfl⟩
        obtain ⟨u6, hu6⟩ : ∃ v0, vs 6 = v0 := ⟨_, rfl⟩
        rw [hu0, hu1, hu2, hu3, hu4, hu5, hu6]
        clear hu0 hu1 hu2 hu3 hu4 hu5 hu6
        clear hE hU e7 hmod hw25 hmz hmz2
        have hB2 := bl_call hB hC (Nat.le_refl _)
        have HRO2 := Lib.hid (HRO.out.bl hC)
        clear hB hC HRO HTV
        by_cases hrlt : r < m
        · have hrd : decide ((r : Int) < (m : Int)) = true := decide_eq_true (by omega)
          have hrd2 : decide (r < m) = true := decide_eq_true hrlt
          have hri : (r : Int) < m := by omega
          obtain ⟨y, hy⟩ : ∃ y, (layoutK h xs k)[r]? = some y := ⟨_, List.getElem?_eq_getElem (by rw [HRO2.out.len]; exact hrlt)⟩
          obtain ⟨v, hv, hO⟩ := HRO2.out.own r y hy
          obtain ⟨Ar, cr, rfl⟩ := hO.form
          obtain ⟨nr, hnr⟩ : ∃ nr, y.length = nr := ⟨_, rfl⟩
          have HNR := Lib.hid hnr
          rw [hnr] at hv hO
          clear hnr
          have HY := Lib.hid hy
          have HV := Lib.hid hv
          have HO := Lib.hid hO
          have kg : Hid (∀ V, Below W.heap.size W V → V.cell? ⟨G, r, none⟩ = some (.slice Ar nr cr)) := fun V hb => by
            have := (HRO2.out.blk.bl hb).cell r
            rw [HV.out] at this
            exact this
          clear hy hv hO
          obtain ⟨b, off, fr, sw, pl, rfl, hbb, r0, r1, r2, Hx⟩ := RowTs.get (HG.out.keep (Keeps.below hB2)).rs hrlt
          have HPL := Lib.hid r2
          clear r0 r1 r2 hbb
          obtain ⟨x3, x4⟩ := kk.out W hB2
          have k0 := kg.out W (Below.refl _ _)
          have k2 := HPL.out
          by_cases hpl : (nr : Int) < pl
          · have hnm : nr ≤ 8 := by
              have hre := HKK.out.row (k := r) (by rw [Hm.out]; exact hrlt)
              obtain ⟨f1, f2, f3, f4, f5, f6⟩ := rowE_zero Hx.out hre
              rw [Hn.out] at f6
              omega
            have hpd : decide ((nr : Int) < pl) = true := decide_eq_true hpl
            have HS : Hid (layoutK h xs (k + 1) = (layoutK h xs k).set r (y ++ [(k : Int)])) := by rw [Hid, layoutK_succ]; exact layStep_yes HR.out HY.out (by rw [Hm.out]; exact hrlt) (by rw [HNR.out, getD_of Hx.out]; exact hpl)
            go_simp
            go_wp2_with fail
            go_quiet (fail)
            clear k0 k2 x3 x4
            obtain ⟨V1, hV1⟩ : ∃ V, W.drewN nq = V := ⟨_, rfl⟩
            have hd : Below W.heap.size W V1 := by rw [← hV1]; exact bl_drewN (Below.refl _ _) _
            rw [hV1]
            clear hV1
            have k0 := kg.out V1 hd
            have hB3 := bl_call hB2 hd (Nat.le_refl _)
            have HRO3 := Lib.hid (HRO2.out.bl hd)
            have hO3 := HO.out.below IntR.good hd
            clear hd HRO2 kg HO hB2
            go_wp2_with (at_builtin; refine wpList_append_n _ rfl (.tmp 50) (.tmp 52) _ rfl IntR.good W0.heap.size 3 i0 _ 8 Try.underlying39 hi0 hz0 hz1 hz2 rfl (by omega) (.slice Ar nr cr) y (k : Int) nr HNR.out rfl (hO3.alloc IntR.good (.cells #[.int .i64 k] 3)) ⟨_, 0, none⟩ 1 [.int .i64 k] rfl rfl (news_new rfl (by simp)) ?c1 ?c2 ?c3 (fun h => h) ?_)
            case c1 => simp only [maxLen]; omega
            case c2 => omega
            case c3 => have := hB3.size; simp; omega
            intro A' cap' w2 hown2 hg2 hat2
            have hBa : Below W0.heap.size W0 (V1.alloc (.cells #[.int .i64 k] 3)) := bl_alloc hB3 _ (Nat.le_refl _)
            have hBw : Below W0.heap.size W0 w2 := bl_grown hBa (hO3.alloc IntR.good _) hg2 (Nat.le_refl _) (Nat.le_refl _)
            have HR4 : Hid (RowsOwn W0.heap.size (w2.setCell ⟨G, r, none⟩ (.slice (some ⟨A', 0, none⟩) (nr + 1) cap')) G m (layoutK h xs (k + 1)) (cs.setIfInBounds r (.slice (some ⟨A', 0, none⟩) (nr + 1) cap'))) := by
              rw [Hid, HS.out]
              exact (HRO3.out.bl (bl_alloc (Below.refl _ _) _ (Nat.le_refl _))).put HY.out HV.out hg2 hown2 (fun k2 hk2 => by
                have e2 : A' = k2 := by simpa [Value.ownBlock] using hk2
                subst e2
                rcases hat2 with h9 | h9
                · exact .inl h9
                · exact .inr (by rw [h9]; simp))
            have hgo : some G ≠ (Value.slice Ar nr cr).ownBlock := fun e => by
              obtain ⟨cur, hc⟩ := own_blk hO3 e.symm
              exact absurd (blk_ty hc HRO3.out.blk) (by decide)
            have hG2 : Blk w2 G 39 cs := (HRO3.out.blk.alloc _).grown hg2 hgo
            have z0 : w2.cell? ⟨G, r, none⟩ = some (.slice Ar nr cr) := (hG2.cell r).trans HV.out
            have fz0 := hG2.frozen r
            have hlz := hG2.lt
            obtain ⟨w3, hw3⟩ : ∃ V, w2.setCell ⟨G, r, none⟩ (.slice (some ⟨A', 0, none⟩) (nr + 1) cap') = V := ⟨_, rfl⟩
            rw [hw3] at HR4
            have hB4 : Below W0.heap.size W0 w3 := by rw [← hw3]; exact bl_set hBw HGB.out _
            clear hgo hG2 hBa hBw hg2 hat2 hown2 hO3 HRO3 hB3 k0
            go_wp2_with fail
            clear z0 fz0 hlz hw3
            go_roundw
            case rel => exact ⟨k + 1, _, by go_num, by omega, HR4.out, hB4⟩
            case measure => simp [intOf]; omega
          · have hpd : decide ((nr : Int) < pl) = false := decide_eq_false hpl
            have HS : Hid (layoutK h xs (k + 1) = layoutK h xs k) := by rw [Hid, layoutK_succ]; exact layStep_full HR.out HY.out (by rw [HNR.out, getD_of Hx.out]; exact hpl)
            clear hpl
            go_simp
            go_wp2_with fail
            go_quiet (fail)
            clear k0 k2 x3 x4
            go_wp2_with fail
            go_roundw
            case rel => exact ⟨k + 1, cs, by go_num, by omega, by rw [HS.out]; exact HRO2.out.bl (bl_drewN (Below.refl _ _) _), bl_drewN hB2 _⟩
            case measure => simp [intOf]; omega
        · have hrd : decide ((r : Int) < (m : Int)) = false := decide_eq_false (by omega)
          have hrd2 : decide (r < m) = false := decide_eq_false hrlt
          have hri : ¬ (r : Int) < m := by omega
          have HS : Hid (layoutK h xs (k + 1) = layoutK h xs k) := by rw [Hid, layoutK_succ]; exact layStep_out HR.out (by rw [Hm.out]; exact hrlt)
          clear hrlt
          go_simp
          go_wp2_with fail
          go_quiet (fail)
          go_wp2_with fail
          go_roundw
          case rel => exact ⟨k + 1, cs, by go_num, by omega, by rw [HS.out]; exact HRO2.out.bl (bl_drewN (Below.refl _ _) _), bl_drewN hB2 _⟩
          case measure => simp [intOf]; omega
    · obtain rfl : k = n := by omega
      have hki : ¬ (k : Int) < k := by omega
      have HRO := Lib.hid hRO
      clear hRO
      go_wp2_with fail
      go_ret
      refine ⟨⟨_, _, rfl, ?_⟩, bl_call HBG.out.1 hB (Nat.le_of_eq HBG.out.2.2.symm)⟩
      have hlay : layoutL h xs = layoutK h xs k := by unfold layoutL; rw [Hn.out]
      rw [hlay]
      exact (HRO.out.rows (by simp only [maxLen]; omega) HGB.out).mono (SlR.good IntR.good) fun j hj => Nat.le_trans HBG.out.2.1 hj

end Go.Proofs.Ytpbimgafafkjgaa
