/- Layer 8, plain: halls, their errors, widths and gaps. Nothing of a program stands here. -/
import Derived.Test.YtpdldmichpmgmaaGreatCPlain
set_option linter.unusedVariables false
set_option linter.unusedSimpArgs false
set_option linter.all false
namespace Go.Proofs.YtpdldmichpmgmaaGreat

structure Tile where
  name : List UInt8
  wlo : Int
  whi : Int
  slo : Int
  shi : Int
structure RowT where
  frame : Int
  swell : Int
  places : Int
structure Seen where
  tile : Int
  air : Int
  lo : Int
  hi : Int
structure Hall where
  alo : Int
  ahi : Int
  most : Int
  tiles : List Tile
  rows : List RowT

/-- the first number below n of which f is not 0 -/
def firstErr (f : Nat → Int) : Nat → Option (Nat × Int)
  | 0 => none
  | n + 1 => match firstErr f n with
    | some r => some r
    | none => if f n = 0 then none else some (n, f n)

theorem firstErr_none {f : Nat → Int} {n : Nat} (h : ∀ k, k < n → f k = 0) : firstErr f n = none := by
  induction n with
  | zero => rfl
  | succ n ih => simp [firstErr, ih (fun k hk => h k (by omega)), h n (by omega)]
theorem firstErr_some {f : Nat → Int} {n k : Nat} (hk : k < n) (h : ∀ j, j < k → f j = 0) (he : f k ≠ 0) : firstErr f n = some (k, f k) := by
  induction n with
  | zero => omega
  | succ n ih =>
    by_cases hkn : k = n
    · subst hkn
      simp [firstErr, firstErr_none h, he]
    · simp [firstErr, ih (by omega)]
theorem firstErr_cases (f : Nat → Int) (n : Nat) : (firstErr f n = none ∧ ∀ k, k < n → f k = 0) ∨ ∃ k, k < n ∧ firstErr f n = some (k, f k) ∧ f k ≠ 0 ∧ ∀ j, j < k → f j = 0 := by
  induction n with
  | zero => exact .inl ⟨rfl, fun k h => by omega⟩
  | succ n ih =>
    rcases ih with ⟨h, ha⟩ | ⟨k, hk, h, he, hj⟩
    · by_cases he : f n = 0
      · exact .inl ⟨by simp [firstErr, h, he], fun k hk => by rcases Nat.lt_or_eq_of_le (Nat.le_of_lt_succ hk) with h1 | h1; exact ha k h1; rw [h1]; exact he⟩
      · exact .inr ⟨n, by omega, by simp [firstErr, h, he], he, ha⟩
    · exact .inr ⟨k, by omega, by simp [firstErr, h], he, hj⟩
theorem upto_succ {f : Nat → Int} {k : Nat} (h : ∀ j, j < k → f j = 0) (hk : f k = 0) : ∀ j, j < k + 1 → f j = 0 := by
  intro j hj
  rcases Nat.lt_or_eq_of_le (Nat.le_of_lt_succ hj) with h1 | h1
  · exact h j h1
  · rw [h1]; exact hk

def dTile : Tile := ⟨[], 0, 0, 0, 0⟩
def dRow : RowT := ⟨0, 0, 0⟩
def dSeen : Seen := ⟨0, 0, 0, 0⟩
theorem getD_of {α : Type} {l : List α} {k : Nat} {x d : α} (h : l[k]? = some x) : l.getD k d = x := by rw [List.getD_eq_getElem?_getD, h]; rfl

/-- the error of the numbers of a tile -/
def tileN (x : Tile) : Int :=
  if !inB x.wlo 1 20000 || !inB x.whi 1 20000 || !inB x.slo 0 20 || !inB x.shi 0 20 then 7
  else if !inB x.whi x.wlo (x.wlo + 10) || !inB x.shi x.slo (x.slo + 3) then 2 else 0
def tileE (l : List Tile) (k : Nat) : Int :=
  let x := l.getD k dTile
  let e := fresh x.name ((l.take k).map (·.name))
  if e ≠ 0 then e else tileN x
def placesOf (l : List RowT) : Int := (l.map (·.places)).sum
def rowE (nt : Nat) (l : List RowT) (k : Nat) : Int :=
  let x := l.getD k dRow
  if !inB x.frame 0 200000 || !inB x.swell 0 160 || !inB x.places 1 nt then 7
  else if (nt : Int) < placesOf (l.take k) + x.places then 3 else 0

/-- P8.1 -/
def check8 (h : Hall) : Int × Int × Int :=
  if !inB h.alo 0 40 || !inB h.ahi 0 40 || !inB h.most 0 20000 then (1, 0, 7)
  else if !inB h.ahi h.alo (h.alo + 12) then (1, 0, 2)
  else if ¬ (1 ≤ h.tiles.length ∧ h.tiles.length ≤ 8) ∨ ¬ (1 ≤ h.rows.length ∧ h.rows.length ≤ 3) then (1, 0, 3)
  else match firstErr (tileE h.tiles) h.tiles.length with
  | some (k, e) => (2, k, e)
  | none => match firstErr (rowE h.tiles.length h.rows) h.rows.length with
    | some (k, e) => (3, k, e)
    | none => (0, 0, 0)
def err8 (h : Hall) : Int := (check8 h).2.2

def seenE (nt : Nat) (l : List Seen) (k : Nat) : Int :=
  let x := l.getD k dSeen
  if !inB x.tile 0 ((nt : Int) - 1) then 4
  else if !inB x.air 0 40 || !inB x.lo 0 40000 || !inB x.hi 0 40000 then 7
  else if x.lo > x.hi then 2 else 0
/-- P8.2 -/
def seen8 (h : Hall) (l : List Seen) : Int × Int :=
  if err8 h ≠ 0 then (0, err8 h) else if 6 < l.length then (0, 3) else
  match firstErr (seenE h.tiles.length l) l.length with
  | some (k, e) => (k, e)
  | none => (0, 0)

/-- does a width and a swell of a tile agree -/
def twoOk (l : List Seen) (t : Nat) (w s : Int) : Bool := l.all fun y => !(y.tile == (t : Int)) || inB (w + s * y.air) y.lo y.hi
def wideN (x : Tile) : Nat := (x.whi - x.wlo + 1).toNat
def swellN (x : Tile) : Nat := (x.shi - x.slo + 1).toNat
def pairN (x : Tile) (n : Nat) : Int × Int := (x.wlo + (n / swellN x : Nat), x.slo + (n % swellN x : Nat))
/-- all widths and swells of a tile that agree, of the first k -/
def twosK (l : List Seen) (t : Nat) (x : Tile) (k : Nat) : List (Int × Int) := ((List.range k).map (pairN x)).filter fun p => twoOk l t p.1 p.2
def twosL (h : Hall) (l : List Seen) (t : Nat) : List (Int × Int) := twosK l t (h.tiles.getD t dTile) (wideN (h.tiles.getD t dTile) * swellN (h.tiles.getD t dTile))
def agree8 (h : Hall) (l : List Seen) : Bool := (List.range h.tiles.length).all fun t => !(twosL h l t).isEmpty

/-- the least and the greatest of some numbers, beginning with one -/
def ends (lo hi : Int) : List Int → Int × Int
  | [] => (lo, hi)
  | x :: l => ends (min lo x) (max hi x) l
def endsOf : List Int → Int × Int
  | [] => (0, 0)
  | x :: l => ends x x l
theorem ends_snoc (l : List Int) (x : Int) : ∀ lo hi, ends lo hi (l ++ [x]) = (min (ends lo hi l).1 x, max (ends lo hi l).2 x) := by
  induction l with
  | nil => intro lo hi; rfl
  | cons y l ih => intro lo hi; exact ih _ _
theorem endsOf_snoc {l : List Int} (h : l ≠ []) (x : Int) : endsOf (l ++ [x]) = (min (endsOf l).1 x, max (endsOf l).2 x) := by
  cases l with
  | nil => exact absurd rfl h
  | cons y l => exact ends_snoc l x y y
theorem endsOf_one (x : Int) : endsOf [x] = (x, x) := rfl

def wideOf (l : List (Int × Int)) (air : Int) : Int × Int := endsOf (l.map fun p => p.1 + p.2 * air)
/-- the least and the greatest width of a tile in some air -/
def wide8 (h : Hall) (l : List Seen) (t : Nat) (air : Int) : Int × Int := wideOf (twosL h l t) air
/-- P8.3 -/
def width8 (h : Hall) (l : List Seen) (t air : Int) : (Int × Int) × Int :=
  if (seen8 h l).2 ≠ 0 then ((0, 0), (seen8 h l).2) else
  if !inB t 0 ((h.tiles.length : Int) - 1) then ((0, 0), 4) else
  if !inB air 0 40 then ((0, 0), 7) else
  if agree8 h l = false then ((0, 0), 9) else (wide8 h l t.toNat air, 0)

/-- the error of tiles of a row -/
def tilesE (nt : Nat) (places : Int) (l : List Int) : Int :=
  if (l.length : Int) ≠ places then 3 else
  if l.any (fun i => !inB i 0 ((nt : Int) - 1)) then 4 else
  if (List.range (l.length - 1)).any (fun k => decide (l.getD (k + 1) 0 ≤ l.getD k 0)) then 2 else 0
def asked8 (h : Hall) (l : List Seen) (row : Int) (tiles : List Int) : Int :=
  if (seen8 h l).2 ≠ 0 then (seen8 h l).2 else
  if !inB row 0 ((h.rows.length : Int) - 1) then 4 else
  if tilesE h.tiles.length (h.rows.getD row.toNat dRow).places tiles ≠ 0 then tilesE h.tiles.length (h.rows.getD row.toNat dRow).places tiles else
  if agree8 h l = false then 9 else 0
/-- the least and the greatest gap of a row with tiles in some air -/
def atUpto (h : Hall) (l : List Seen) (row : Nat) (tiles : List Int) (air : Int) (k : Nat) : Int × Int :=
  (tiles.take k).foldl (fun g i => (g.1 - (wide8 h l i.toNat air).2, g.2 - (wide8 h l i.toNat air).1))
    ((h.rows.getD row dRow).frame + (h.rows.getD row dRow).swell * air, (h.rows.getD row dRow).frame + (h.rows.getD row dRow).swell * air)
def at8 (h : Hall) (l : List Seen) (row : Nat) (tiles : List Int) (air : Int) : Int × Int := atUpto h l row tiles air tiles.length
/-- in any air from the least on: as many more -/
def gapUpto (h : Hall) (l : List Seen) (row : Nat) (tiles : List Int) : Nat → Int × Int
  | 0 => at8 h l row tiles h.alo
  | k + 1 => (min (gapUpto h l row tiles k).1 (at8 h l row tiles (h.alo + 1 + k)).1, max (gapUpto h l row tiles k).2 (at8 h l row tiles (h.alo + 1 + k)).2)
def gap8 (h : Hall) (l : List Seen) (row : Nat) (tiles : List Int) : Int × Int := gapUpto h l row tiles (h.ahi - h.alo).toNat
def wrong8 (most : Int) (g : Int × Int) : Int := if g.1 < 0 then 1 else if g.2 > most then 2 else 0
/-- P8.4 -/
def gapR (h : Hall) (l : List Seen) (row : Int) (tiles : List Int) : (Int × Int) × Int :=
  if asked8 h l row tiles ≠ 0 then ((0, 0), asked8 h l row tiles) else (gap8 h l row.toNat tiles, 0)
/-- the first air of k from one on in which tiles do not fit -/
def whyUpto (h : Hall) (l : List Seen) (row : Nat) (tiles : List Int) (k : Nat) : Option (Nat × Int) := firstErr (fun n => wrong8 h.most (at8 h l row tiles (h.alo + n))) k
def whyR (h : Hall) (l : List Seen) (row : Int) (tiles : List Int) : Int × Int × Int :=
  if asked8 h l row tiles ≠ 0 then (0, 0, asked8 h l row tiles) else
  match whyUpto h l row.toNat tiles (h.ahi - h.alo + 1).toNat with
  | some (n, e) => (e, h.alo + n, 0)
  | none => (0, 0, 0)
/-- the air below k in which tiles fit: the first one and the last one -/
def airsUpto (h : Hall) (l : List Seen) (row : Nat) (tiles : List Int) : Nat → Option (Int × Int)
  | 0 => none
  | k + 1 => if wrong8 h.most (at8 h l row tiles k) ≠ 0 then airsUpto h l row tiles k else
    match airsUpto h l row tiles k with
    | none => some ((k : Int), (k : Int))
    | some (lo, _) => some (lo, (k : Int))
def airsR (h : Hall) (l : List Seen) (row : Int) (tiles : List Int) : (Int × Int) × Int :=
  if asked8 h l row tiles ≠ 0 then ((0, 0), asked8 h l row tiles) else
  match airsUpto h l row.toNat tiles 41 with
  | none => ((0, 0), 8)
  | some g => (g, 0)

end Go.Proofs.YtpdldmichpmgmaaGreat
