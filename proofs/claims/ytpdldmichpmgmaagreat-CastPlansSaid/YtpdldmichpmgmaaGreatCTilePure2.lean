/- Layer 8, plain: layings, in the document's way and in the program's. Nothing of a program stands here. -/
import Derived.Test.YtpdldmichpmgmaaGreatCTilePure
set_option linter.unusedVariables false
set_option linter.unusedSimpArgs false
set_option linter.all false
namespace Go.Proofs.YtpdldmichpmgmaaGreat

/-- all lists of so many numbers of some, in order -/
def lexL : Nat → List Int → List (List Int)
  | 0, _ => [[]]
  | _ + 1, [] => []
  | k + 1, x :: of => ((lexL k of).map (x :: ·)) ++ lexL (k + 1) of
/-- numbers without some of them -/
def leftL (of some_ : List Int) : List Int := of.filter fun i => !decide (i ∈ some_)
def numbersL (n : Nat) : List Int := (List.range n).map fun i : Nat => (i : Int)

/-- one more laying -/
def betterL (o : Option (List (List Int) × Int)) (x : List (List Int) × Int) : Option (List (List Int) × Int) :=
  match o with
  | none => some x
  | some y => if x.2 < y.2 then some x else some y
def leastL (l : List (List (List Int) × Int)) : Option (List (List Int) × Int) := l.foldl betterL none
def rowP (h : Hall) (row : Nat) : Nat := (h.rows.getD row dRow).places.toNat
def headL (x : List Int) (r : List (List Int) × Int) : List (List Int) × Int := (x :: r.1, r.2)
/-- the laying with the least gap of the last rows, with tiles that are left, and of the gap of the rows before them -/
def bestR (h : Hall) (l : List Seen) : Nat → List Int → Int → Option (List (List Int) × Int)
  | 0, _, before => some ([], before)
  | k + 1, left, before => (lexL (rowP h (h.rows.length - (k + 1))) left).foldl (fun out x =>
      if wrong8 h.most (gap8 h l (h.rows.length - (k + 1)) x) ≠ 0 then out else
      match bestR h l k (leftL left x) (max before (gap8 h l (h.rows.length - (k + 1)) x).2) with
      | none => out
      | some r => betterL out (headL x r)) none
/-- P8.5 -/
def hallE (h : Hall) (l : List Seen) : Int := if (seen8 h l).2 ≠ 0 then (seen8 h l).2 else if agree8 h l = false then 9 else 0
def layR (h : Hall) (l : List Seen) : List (List Int) × Int × Int :=
  if hallE h l ≠ 0 then ([], 0, hallE h l) else
  match bestR h l h.rows.length (numbersL h.tiles.length) 0 with
  | none => ([], 0, 8)
  | some (rows, gap) => (rows, gap, 0)
def withoutR (h : Hall) (l : List Seen) (t : Int) : Bool := (bestR h l h.rows.length (leftL (numbersL h.tiles.length) [t]) 0).isSome
def must8 (h : Hall) (l : List Seen) : List Int × Int :=
  if hallE h l ≠ 0 then ([], hallE h l) else
  if bestR h l h.rows.length (numbersL h.tiles.length) 0 = none then ([], 8) else
  ((numbersL h.tiles.length).filter fun t => !withoutR h l t, 0)

/-- the tiles that fit a row, in order -/
def fitL (h : Hall) (l : List Seen) (row : Nat) : List (List Int) := (lexL (rowP h row) (numbersL h.tiles.length)).filter fun x => wrong8 h.most (gap8 h l row x) == 0
/-- all layings of the last rows, with tiles that are not used, in order -/
def layL (h : Hall) (l : List Seen) : Nat → List Int → Int → List (List (List Int) × Int)
  | 0, _, before => [([], before)]
  | k + 1, used, before => (fitL h l (h.rows.length - (k + 1))).flatMap fun x =>
      if x.all (fun i => !decide (i ∈ used)) then (layL h l k (used ++ x) (max before (gap8 h l (h.rows.length - (k + 1)) x).2)).map (headL x) else []

theorem betterL_some (o : Option (List (List Int) × Int)) (x : List (List Int) × Int) : ∃ y, betterL o x = some y := by
  unfold betterL
  split
  · exact ⟨_, rfl⟩
  · split <;> exact ⟨_, rfl⟩
/-- the better one of two -/
def better2 (a b : Option (List (List Int) × Int)) : Option (List (List Int) × Int) :=
  match b with
  | none => a
  | some y => betterL a y
theorem better2_assoc (a : Option (List (List Int) × Int)) (b : Option (List (List Int) × Int)) (x : List (List Int) × Int) : better2 a (betterL b x) = betterL (better2 a b) x := by
  cases b with
  | none => rfl
  | some y =>
    cases a with
    | none =>
      show better2 none (if x.2 < y.2 then some x else some y) = (if x.2 < y.2 then some x else some y)
      by_cases h : x.2 < y.2
      · rw [if_pos h]; rfl
      · rw [if_neg h]; rfl
    | some z =>
      show better2 (some z) (if x.2 < y.2 then some x else some y) = betterL (if y.2 < z.2 then some y else some z) x
      by_cases h : x.2 < y.2
      · rw [if_pos h]
        by_cases h2 : y.2 < z.2
        · rw [if_pos h2]
          show (if x.2 < z.2 then some x else some z) = (if x.2 < y.2 then some x else some y)
          rw [if_pos h, if_pos (by omega)]
        · rw [if_neg h2]; rfl
      · rw [if_neg h]
        by_cases h2 : y.2 < z.2
        · rw [if_pos h2]
          show (if y.2 < z.2 then some y else some z) = (if x.2 < y.2 then some x else some y)
          rw [if_neg h, if_pos h2]
        · rw [if_neg h2]
          show (if y.2 < z.2 then some y else some z) = (if x.2 < z.2 then some x else some z)
          rw [if_neg h2, if_neg (by omega)]
theorem foldl_better (l : List (List (List Int) × Int)) : ∀ a, l.foldl betterL a = better2 a (leastL l) := by
  have key : ∀ (l : List (List (List Int) × Int)) (a b), l.foldl betterL (better2 a b) = better2 a (l.foldl betterL b) := by
    intro l
    induction l with
    | nil => intro a b; rfl
    | cons x l ih => intro a b; rw [List.foldl_cons, List.foldl_cons, ← better2_assoc, ih]
  intro a
  exact key l a none
theorem least_append (l m : List (List (List Int) × Int)) : leastL (l ++ m) = better2 (leastL l) (leastL m) := by
  unfold leastL; rw [List.foldl_append, foldl_better]; rfl
theorem least_head (x : List Int) (l : List (List (List Int) × Int)) : leastL (l.map (headL x)) = (leastL l).map (headL x) := by
  have key : ∀ (l : List (List (List Int) × Int)) o, (l.map (headL x)).foldl betterL (o.map (headL x)) = (l.foldl betterL o).map (headL x) := by
    intro l
    induction l with
    | nil => intro o; rfl
    | cons y l ih =>
      intro o
      rw [List.map_cons, List.foldl_cons, List.foldl_cons, ← ih]
      congr 1
      cases o with
      | none => rfl
      | some z =>
        show (if y.2 < z.2 then some (headL x y) else some (headL x z)) = Option.map (headL x) (if y.2 < z.2 then some y else some z)
        by_cases h : y.2 < z.2
        · rw [if_pos h, if_pos h]; rfl
        · rw [if_neg h, if_neg h]; rfl
  exact key l none
theorem least_none (l : List (List (List Int) × Int)) : leastL l = none ↔ l = [] := by
  constructor
  · intro h
    cases l with
    | nil => rfl
    | cons x l =>
      exfalso
      have : ∀ (l : List (List (List Int) × Int)) o, (∃ y, o = some y) → ∃ y, l.foldl betterL o = some y := by
        intro l
        induction l with
        | nil => intro o h; exact h
        | cons z l ih => intro o _; exact ih _ (betterL_some o z)
      obtain ⟨y, hy⟩ := this l (betterL none x) (betterL_some _ _)
      unfold leastL at h
      rw [List.foldl_cons, hy] at h
      cases h
  · rintro rfl; rfl

theorem lex_sub : ∀ (k : Nat) (of : List Int) (x : List Int), x ∈ lexL k of → x.Sublist of ∧ x.length = k := by
  intro k of
  induction of generalizing k with
  | nil =>
    intro x hx
    cases k with
    | zero => simp [lexL] at hx; subst hx; exact ⟨List.Sublist.refl _, rfl⟩
    | succ k => simp [lexL] at hx
  | cons y of ih =>
    intro x hx
    cases k with
    | zero => simp [lexL] at hx; subst hx; exact ⟨List.nil_sublist _, rfl⟩
    | succ k =>
      rw [lexL, List.mem_append] at hx
      rcases hx with hx | hx
      · obtain ⟨u, hu, rfl⟩ := List.mem_map.1 hx
        obtain ⟨h1, h2⟩ := ih k u hu
        exact ⟨h1.cons_cons y, by simp [h2]⟩
      · obtain ⟨h1, h2⟩ := ih (k + 1) x hx
        exact ⟨h1.cons y, h2⟩
theorem lex_filter (p : Int → Bool) : ∀ (of : List Int) (k : Nat), lexL k (of.filter p) = (lexL k of).filter fun x => x.all p := by
  intro of
  induction of with
  | nil => intro k; cases k <;> rfl
  | cons y of ih =>
    intro k
    cases k with
    | zero => cases h : (y :: of).filter p <;> rfl
    | succ k =>
      by_cases hy : p y = true
      · rw [List.filter_cons_of_pos hy, lexL, lexL, ih, ih, List.filter_append, List.filter_map]
        congr 1
        congr 1
        refine List.filter_congr fun x _ => ?_
        simp [hy]
      · rw [List.filter_cons_of_neg hy, lexL, ih, List.filter_append]
        have : ((lexL k of).map (y :: ·)).filter (fun x => x.all p) = [] := by
          rw [List.filter_eq_nil_iff]
          intro x hx
          obtain ⟨u, _, rfl⟩ := List.mem_map.1 hx
          simp [hy]
        rw [this]; rfl

/-- the document's way and the program's -/
theorem best_lay (h : Hall) (l : List Seen) : ∀ (k : Nat) (used : List Int) (before : Int), bestR h l k (leftL (numbersL h.tiles.length) used) before = leastL (layL h l k used before) := by
  intro k
  induction k with
  | zero => intro used before; rfl
  | succ k ih =>
    intro used before
    rw [bestR, layL]
    have hl : leftL (numbersL h.tiles.length) used = (numbersL h.tiles.length).filter (fun i => !decide (i ∈ used)) := rfl
    rw [hl, lex_filter]
    have hF : ∀ x : List Int, leftL ((numbersL h.tiles.length).filter fun i => !decide (i ∈ used)) x = leftL (numbersL h.tiles.length) (used ++ x) := by
      intro x
      unfold leftL
      rw [List.filter_filter]
      refine List.filter_congr fun i _ => ?_
      by_cases h1 : i ∈ used <;> by_cases h2 : i ∈ x <;> simp [h1, h2]
    unfold fitL
    have key : ∀ (L : List (List Int)) (a : Option (List (List Int) × Int)), (L.filter fun x => x.all fun i => !decide (i ∈ used)).foldl (fun out x =>
        if wrong8 h.most (gap8 h l (h.rows.length - (k + 1)) x) ≠ 0 then out else
        match bestR h l k (leftL ((numbersL h.tiles.length).filter fun i => !decide (i ∈ used)) x) (max before (gap8 h l (h.rows.length - (k + 1)) x).2) with
        | none => out
        | some r => betterL out (headL x r)) a = better2 a (leastL ((L.filter fun x => wrong8 h.most (gap8 h l (h.rows.length - (k + 1)) x) == 0).flatMap fun x =>
      if x.all (fun i => !decide (i ∈ used)) then (layL h l k (used ++ x) (max before (gap8 h l (h.rows.length - (k + 1)) x).2)).map (headL x) else [])) := by
      intro L
      induction L with
      | nil => intro a; rfl
      | cons x L ihL =>
        intro a
        by_cases hu : (x.all fun i => !decide (i ∈ used)) = true
        · rw [List.filter_cons_of_pos (p := fun x : List Int => x.all fun i => !decide (i ∈ used)) hu, List.foldl_cons, ihL]
          by_cases hw : wrong8 h.most (gap8 h l (h.rows.length - (k + 1)) x) = 0
          · rw [List.filter_cons_of_pos (by simpa using hw), List.flatMap_cons, if_pos hu, least_append, least_head, if_neg (by simpa using hw), hF, ih]
            cases hb : leastL (layL h l k (used ++ x) (max before (gap8 h l (h.rows.length - (k + 1)) x).2)) with
            | none =>
              simp only [Option.map_none]
              generalize leastL _ = o
              cases o <;> rfl
            | some r =>
              simp only [Option.map_some]
              generalize leastL _ = o
              cases o with
              | none => rfl
              | some y => exact (better2_assoc a (some (headL x r)) y).symm
          · rw [List.filter_cons_of_neg (by simpa using hw), if_pos hw]
        · rw [List.filter_cons_of_neg (p := fun x : List Int => x.all fun i => !decide (i ∈ used)) hu, ihL]
          by_cases hw : wrong8 h.most (gap8 h l (h.rows.length - (k + 1)) x) = 0
          · rw [List.filter_cons_of_pos (by simpa using hw), List.flatMap_cons, if_neg hu, List.nil_append]
          · rw [List.filter_cons_of_neg (by simpa using hw)]
    rw [key]
    generalize leastL _ = o
    cases o <;> rfl
theorem left_none (of : List Int) : leftL of [] = of := by unfold leftL; simp
theorem best_all (h : Hall) (l : List Seen) : bestR h l h.rows.length (numbersL h.tiles.length) 0 = leastL (layL h l h.rows.length [] 0) := by
  rw [← best_lay, left_none]
theorem without_lay (h : Hall) (l : List Seen) (t : Int) : withoutR h l t = (leastL (layL h l h.rows.length [t] 0)).isSome := by
  unfold withoutR; rw [best_lay]

end Go.Proofs.YtpdldmichpmgmaaGreat
