/- A part of the proof that TopLaid always answers true. -/
import Derived.WalkKit
set_option linter.all false
namespace Go.Proofs.YtdbfincinjoppaaGreat
open Go.RowKit
def letter (b : UInt8) : Bool := decide ((97 : Int) ≤ b.toNat) && decide ((b.toNat : Int) ≤ 122)
def okByte (b : UInt8) : Bool := letter b || (decide ((48 : Int) ≤ b.toNat) && decide ((b.toNat : Int) ≤ 57)) || decide ((b.toNat : Int) = 45)
def isName (s : List UInt8) : Bool :=
 decide (1 ≤ s.length) && decide (s.length ≤ 16) && letter (s.getD 0 0) && s.all okByte
theorem okByte_iff (b : UInt8) : okByte b = true ↔ ((97 : Int) ≤ b.toNat ∧ (b.toNat : Int) ≤ 122) ∨ ((48 : Int) ≤ b.toNat ∧ (b.toNat : Int) ≤ 57) ∨ (b.toNat : Int) = 45 := by
 simp [okByte, letter, or_assoc]
theorem okByte_false (b : UInt8) (h : ¬ (((97 : Int) ≤ b.toNat ∧ (b.toNat : Int) ≤ 122) ∨ ((48 : Int) ≤ b.toNat ∧ (b.toNat : Int) ≤ 57) ∨ (b.toNat : Int) = 45)) : okByte b = false := by
 rw [← Bool.not_eq_true, okByte_iff]; exact h
theorem byte_get (s : ByteArray) (k : Nat) (h : k < s.size) : s.data.toList[k]? = some s[k] := by
 rw [List.getElem?_eq_getElem (by simpa using h)]; rfl
theorem name_no (s : ByteArray) (k : Nat) (h : k < s.size) (hb : okByte s[k] = false) : isName s.data.toList = false := by
 have : s.data.toList.all okByte = false := by
  rw [← Bool.not_eq_true]
  intro ha
  rw [List.all_eq_true.1 ha s[k] (List.mem_of_getElem? (byte_get s k h))] at hb
  cases hb
 simp [isName, this]
theorem letter_iff (b : UInt8) : letter b = true ↔ ((97 : Int) ≤ b.toNat ∧ (b.toNat : Int) ≤ 122) := by simp [letter]
theorem getD_zero (s : ByteArray) (h : 0 < s.size) : s.data.toList.getD 0 0 = s[0] := by
 rw [List.getD_eq_getElem?_getD, byte_get s 0 h]; rfl
theorem name_first (s : ByteArray) (h : 0 < s.size) (hb : letter s[0] = false) : isName s.data.toList = false := by
 unfold isName; rw [getD_zero s h, hb]; simp
theorem name_yes (s : ByteArray) (h : 0 < s.size) (h16 : s.size ≤ 16) (hl : letter s[0] = true) (ha : (s.data.toList.take s.size).all okByte = true) : isName s.data.toList = true := by
 have e : s.data.toList.length = s.size := by simp
 rw [List.take_of_length_le (by omega)] at ha
 unfold isName
 rw [getD_zero s h, hl, ha, e]
 simp; omega
theorem byte_cases (b : UInt8) :
  (okByte b = false ∧ (((b.toNat : Int) < 45 ∧ ((b.toNat : Int) != 45) = true) ∨ ((46 : Int) ≤ b.toNat ∧ (b.toNat : Int) ≤ 47 ∧ ((b.toNat : Int) != 45) = true) ∨ ((58 : Int) ≤ b.toNat ∧ (b.toNat : Int) ≤ 96 ∧ ((b.toNat : Int) != 45) = true) ∨ ((123 : Int) ≤ b.toNat ∧ ((b.toNat : Int) != 45) = true))) ∨
  (okByte b = true ∧ (((45 : Int) ≤ b.toNat ∧ (b.toNat : Int) ≤ 45 ∧ ((b.toNat : Int) != 45) = false) ∨ ((48 : Int) ≤ b.toNat ∧ (b.toNat : Int) ≤ 57) ∨ ((97 : Int) ≤ b.toNat ∧ (b.toNat : Int) ≤ 122))) := by
 have hn : ∀ n : Int, n ≠ 45 → (n != 45) = true := fun n h => by simpa using h
 by_cases h : ((97 : Int) ≤ b.toNat ∧ (b.toNat : Int) ≤ 122) ∨ ((48 : Int) ≤ b.toNat ∧ (b.toNat : Int) ≤ 57) ∨ (b.toNat : Int) = 45
 ·refine .inr ⟨(okByte_iff b).2 h, ?_⟩
  rcases h with h | h | h
  ·exact .inr (.inr h)
  ·exact .inr (.inl h)
  exact .inl ⟨by omega, by omega, by rw [h]; rfl⟩
 refine .inl ⟨okByte_false b h, ?_⟩
 have h45 := hn b.toNat (by omega)
 by_cases h1 : (b.toNat : Int) < 45
 ·exact .inl ⟨h1, h45⟩
 by_cases h2 : (b.toNat : Int) ≤ 47
 ·exact .inr (.inl ⟨by omega, h2, h45⟩)
 by_cases h3 : (b.toNat : Int) ≤ 96
 ·exact .inr (.inr (.inl ⟨by omega, h3, h45⟩))
 exact .inr (.inr (.inr ⟨by omega, h45⟩))
theorem take_all (s : ByteArray) (k : Nat) (h : k < s.size) (ha : (s.data.toList.take k).all okByte = true) (hb : okByte s[k] = true) : (s.data.toList.take (k + 1)).all okByte = true := by
 rw [List.take_add_one, byte_get s k h, List.all_append, ha]; simp [hb]
theorem name_long (s : ByteArray) (h : ¬ (1 ≤ s.size ∧ s.size ≤ 16)) : isName s.data.toList = false := by
 have e : s.data.toList.length = s.size := by simp
 unfold isName; rw [e]; simp; omega
def place : List (List UInt8) → List UInt8 → Int
 | [], _ => -1
 | x :: l, s => if x = s then 0 else if place l s < 0 then -1 else place l s + 1
theorem place_none {l : List (List UInt8)} {s : List UInt8} (h : s ∉ l) : place l s = -1 := by
 induction l with
 | nil => rfl
 | cons x l ih =>
  simp only [List.mem_cons, not_or] at h
  rw [place, if_neg (fun e => h.1 e.symm), ih h.2]; simp
theorem place_found {l : List (List UInt8)} {s : List UInt8} {k : Nat} (h : l[k]? = some s) (hn : s ∉ l.take k) : place l s = k := by
 induction l generalizing k with
 | nil => simp at h
 | cons x l ih =>
  cases k with
  | zero => simp at h; simp [place, h]
  | succ k =>
   simp only [List.take_succ_cons, List.mem_cons, not_or] at hn
   have := ih (k := k) (by simpa using h) hn.2
   rw [place, if_neg (fun e => hn.1 e.symm), this, if_neg (by omega)]
   omega
theorem place_neg (l : List (List UInt8)) (s : List UInt8) : place l s < 0 ↔ s ∉ l := by
 constructor
 ·intro h hm
  obtain ⟨k, hk⟩ := List.getElem?_of_mem hm
  induction l generalizing k with
  | nil => simp at hm
  | cons x l ih =>
   rw [place] at h
   split at h
   ·omega
   rename_i hne
   split at h
   ·rename_i h2
    have hm' : s ∈ l := by
     rcases List.mem_cons.1 hm with e | e
     ·exact absurd e.symm hne
     exact e
    obtain ⟨k', hk'⟩ := List.getElem?_of_mem hm'
    exact ih h2 hm' k' hk'
   omega
 intro h; rw [place_none h]; omega
def fresh (s : List UInt8) (l : List (List UInt8)) : Int := if isName s then (if s ∈ l then 5 else 0) else 6
structure Span where
 lo : Int
 hi : Int
 deriving DecidableEq
def inB (n lo hi : Int) : Bool := decide (lo ≤ n) && decide (n ≤ hi)
def spreadGo (lo hi : Int) : List Span → Int → Int
 | [], e => e
 | s :: l, e => if !inB s.lo lo hi || !inB s.hi lo hi then 7 else spreadGo lo hi l (if s.lo > s.hi then 2 else e)
def spread (l : List Span) (lo hi : Int) : Int := spreadGo lo hi l 0
def rangeE (s : Span) (lo hi : Int) : Int := if !inB s.lo lo hi || !inB s.hi lo hi then 7 else if s.lo > s.hi then 2 else 0
structure Tile where
 name : List UInt8
 wlo : Int
 whi : Int
 slo : Int
 shi : Int
structure RowT where
 frame : Int
 swell : Int
 places : Int
structure Seen where
 tile : Int
 air : Int
 lo : Int
 hi : Int
structure Hall where
 alo : Int
 ahi : Int
 most : Int
 tiles : List Tile
 rows : List RowT
def firstErr (f : Nat → Int) : Nat → Option (Nat × Int)
 | 0 => none
 | n + 1 => match firstErr f n with
  | some r => some r
  | none => if f n = 0 then none else some (n, f n)
theorem firstErr_none {f : Nat → Int} {n : Nat} (h : ∀ k, k < n → f k = 0) : firstErr f n = none := by
 induction n with
 | zero => rfl
 | succ n ih => simp [firstErr, ih (fun k hk => h k (by omega)), h n (by omega)]
theorem firstErr_some {f : Nat → Int} {n k : Nat} (hk : k < n) (h : ∀ j, j < k → f j = 0) (he : f k ≠ 0) : firstErr f n = some (k, f k) := by
 induction n with
 | zero => omega
 | succ n ih =>
  by_cases hkn : k = n
  ·subst hkn
   simp [firstErr, firstErr_none h, he]
  simp [firstErr, ih (by omega)]
theorem firstErr_cases (f : Nat → Int) (n : Nat) : (firstErr f n = none ∧ ∀ k, k < n → f k = 0) ∨ ∃ k, k < n ∧ firstErr f n = some (k, f k) ∧ f k ≠ 0 ∧ ∀ j, j < k → f j = 0 := by
 induction n with
 | zero => exact .inl ⟨rfl, fun k h => by omega⟩
 | succ n ih =>
  rcases ih with ⟨h, ha⟩ | ⟨k, hk, h, he, hj⟩
  ·by_cases he : f n = 0
   ·exact .inl ⟨by simp [firstErr, h, he], fun k hk => by rcases Nat.lt_or_eq_of_le (Nat.le_of_lt_succ hk) with h1 | h1; exact ha k h1; rw [h1]; exact he⟩
   exact .inr ⟨n, by omega, by simp [firstErr, h, he], he, ha⟩
  exact .inr ⟨k, by omega, by simp [firstErr, h], he, hj⟩
theorem upto_succ {f : Nat → Int} {k : Nat} (h : ∀ j, j < k → f j = 0) (hk : f k = 0) : ∀ j, j < k + 1 → f j = 0 := by
 intro j hj
 rcases Nat.lt_or_eq_of_le (Nat.le_of_lt_succ hj) with h1 | h1
 ·exact h j h1
 rw [h1]; exact hk
def dTile : Tile := ⟨[], 0, 0, 0, 0⟩
def dRow : RowT := ⟨0, 0, 0⟩
def dSeen : Seen := ⟨0, 0, 0, 0⟩
theorem getD_of {α : Type} {l : List α} {k : Nat} {x d : α} (h : l[k]? = some x) : l.getD k d = x := by rw [List.getD_eq_getElem?_getD, h]; rfl
def tileN (x : Tile) : Int :=
 if !inB x.wlo 1 20000 || !inB x.whi 1 20000 || !inB x.slo 0 20 || !inB x.shi 0 20 then 7
 else if !inB x.whi x.wlo (x.wlo + 10) || !inB x.shi x.slo (x.slo + 3) then 2 else 0
def tileE (l : List Tile) (k : Nat) : Int :=
 let x := l.getD k dTile
 let e := fresh x.name ((l.take k).map (·.name))
 if e ≠ 0 then e else tileN x
def placesOf (l : List RowT) : Int := (l.map (·.places)).sum
def rowE (nt : Nat) (l : List RowT) (k : Nat) : Int :=
 let x := l.getD k dRow
 if !inB x.frame 0 200000 || !inB x.swell 0 160 || !inB x.places 1 nt then 7
 else if (nt : Int) < placesOf (l.take k) + x.places then 3 else 0
def check8 (h : Hall) : Int × Int × Int :=
 if !inB h.alo 0 40 || !inB h.ahi 0 40 || !inB h.most 0 20000 then (1, 0, 7)
 else if !inB h.ahi h.alo (h.alo + 12) then (1, 0, 2)
 else if ¬ (1 ≤ h.tiles.length ∧ h.tiles.length ≤ 8) ∨ ¬ (1 ≤ h.rows.length ∧ h.rows.length ≤ 3) then (1, 0, 3)
 else match firstErr (tileE h.tiles) h.tiles.length with
 | some (k, e) => (2, k, e)
 | none => match firstErr (rowE h.tiles.length h.rows) h.rows.length with
  | some (k, e) => (3, k, e)
  | none => (0, 0, 0)
def err8 (h : Hall) : Int := (check8 h).2.2
def seenE (nt : Nat) (l : List Seen) (k : Nat) : Int :=
 let x := l.getD k dSeen
 if !inB x.tile 0 ((nt : Int) - 1) then 4
 else if !inB x.air 0 40 || !inB x.lo 0 40000 || !inB x.hi 0 40000 then 7
 else if x.lo > x.hi then 2 else 0
def seen8 (h : Hall) (l : List Seen) : Int × Int :=
 if err8 h ≠ 0 then (0, err8 h) else if 6 < l.length then (0, 3) else
 match firstErr (seenE h.tiles.length l) l.length with
 | some (k, e) => (k, e)
 | none => (0, 0)
def twoOk (l : List Seen) (t : Nat) (w s : Int) : Bool := l.all fun y => !(y.tile == (t : Int)) || inB (w + s * y.air) y.lo y.hi
def wideN (x : Tile) : Nat := (x.whi - x.wlo + 1).toNat
def swellN (x : Tile) : Nat := (x.shi - x.slo + 1).toNat
def pairN (x : Tile) (n : Nat) : Int × Int := (x.wlo + (n / swellN x : Nat), x.slo + (n % swellN x : Nat))
def twosK (l : List Seen) (t : Nat) (x : Tile) (k : Nat) : List (Int × Int) := ((List.range k).map (pairN x)).filter fun p => twoOk l t p.1 p.2
def twosL (h : Hall) (l : List Seen) (t : Nat) : List (Int × Int) := twosK l t (h.tiles.getD t dTile) (wideN (h.tiles.getD t dTile) * swellN (h.tiles.getD t dTile))
def agree8 (h : Hall) (l : List Seen) : Bool := (List.range h.tiles.length).all fun t => !(twosL h l t).isEmpty
def ends (lo hi : Int) : List Int → Int × Int
 | [] => (lo, hi)
 | x :: l => ends (min lo x) (max hi x) l
def endsOf : List Int → Int × Int
 | [] => (0, 0)
 | x :: l => ends x x l
theorem ends_snoc (l : List Int) (x : Int) : ∀ lo hi, ends lo hi (l ++ [x]) = (min (ends lo hi l).1 x, max (ends lo hi l).2 x) := by
 induction l with
 | nil => intro lo hi; rfl
 | cons y l ih => intro lo hi; exact ih _ _
theorem endsOf_snoc {l : List Int} (h : l ≠ []) (x : Int) : endsOf (l ++ [x]) = (min (endsOf l).1 x, max (endsOf l).2 x) := by
 cases l with
 | nil => exact absurd rfl h
 | cons y l => exact ends_snoc l x y y
theorem endsOf_one (x : Int) : endsOf [x] = (x, x) := rfl
def wideOf (l : List (Int × Int)) (air : Int) : Int × Int := endsOf (l.map fun p => p.1 + p.2 * air)
def wide8 (h : Hall) (l : List Seen) (t : Nat) (air : Int) : Int × Int := wideOf (twosL h l t) air
def width8 (h : Hall) (l : List Seen) (t air : Int) : (Int × Int) × Int :=
 if (seen8 h l).2 ≠ 0 then ((0, 0), (seen8 h l).2) else
 if !inB t 0 ((h.tiles.length : Int) - 1) then ((0, 0), 4) else
 if !inB air 0 40 then ((0, 0), 7) else
 if agree8 h l = false then ((0, 0), 9) else (wide8 h l t.toNat air, 0)
def tilesE (nt : Nat) (places : Int) (l : List Int) : Int :=
 if (l.length : Int) ≠ places then 3 else
 if l.any (fun i => !inB i 0 ((nt : Int) - 1)) then 4 else
 if (List.range (l.length - 1)).any (fun k => decide (l.getD (k + 1) 0 ≤ l.getD k 0)) then 2 else 0
def asked8 (h : Hall) (l : List Seen) (row : Int) (tiles : List Int) : Int :=
 if (seen8 h l).2 ≠ 0 then (seen8 h l).2 else
 if !inB row 0 ((h.rows.length : Int) - 1) then 4 else
 if tilesE h.tiles.length (h.rows.getD row.toNat dRow).places tiles ≠ 0 then tilesE h.tiles.length (h.rows.getD row.toNat dRow).places tiles else
 if agree8 h l = false then 9 else 0
def atUpto (h : Hall) (l : List Seen) (row : Nat) (tiles : List Int) (air : Int) (k : Nat) : Int × Int :=
 (tiles.take k).foldl (fun g i => (g.1 - (wide8 h l i.toNat air).2, g.2 - (wide8 h l i.toNat air).1))
  ((h.rows.getD row dRow).frame + (h.rows.getD row dRow).swell * air, (h.rows.getD row dRow).frame + (h.rows.getD row dRow).swell * air)
def at8 (h : Hall) (l : List Seen) (row : Nat) (tiles : List Int) (air : Int) : Int × Int := atUpto h l row tiles air tiles.length
def gapUpto (h : Hall) (l : List Seen) (row : Nat) (tiles : List Int) : Nat → Int × Int
 | 0 => at8 h l row tiles h.alo
 | k + 1 => (min (gapUpto h l row tiles k).1 (at8 h l row tiles (h.alo + 1 + k)).1, max (gapUpto h l row tiles k).2 (at8 h l row tiles (h.alo + 1 + k)).2)
def gap8 (h : Hall) (l : List Seen) (row : Nat) (tiles : List Int) : Int × Int := gapUpto h l row tiles (h.ahi - h.alo).toNat
def wrong8 (most : Int) (g : Int × Int) : Int := if g.1 < 0 then 1 else if g.2 > most then 2 else 0
def gapR (h : Hall) (l : List Seen) (row : Int) (tiles : List Int) : (Int × Int) × Int :=
 if asked8 h l row tiles ≠ 0 then ((0, 0), asked8 h l row tiles) else (gap8 h l row.toNat tiles, 0)
def whyUpto (h : Hall) (l : List Seen) (row : Nat) (tiles : List Int) (k : Nat) : Option (Nat × Int) := firstErr (fun n => wrong8 h.most (at8 h l row tiles (h.alo + n))) k
def whyR (h : Hall) (l : List Seen) (row : Int) (tiles : List Int) : Int × Int × Int :=
 if asked8 h l row tiles ≠ 0 then (0, 0, asked8 h l row tiles) else
 match whyUpto h l row.toNat tiles (h.ahi - h.alo + 1).toNat with
 | some (n, e) => (e, h.alo + n, 0)
 | none => (0, 0, 0)
def airsUpto (h : Hall) (l : List Seen) (row : Nat) (tiles : List Int) : Nat → Option (Int × Int)
 | 0 => none
 | k + 1 => if wrong8 h.most (at8 h l row tiles k) ≠ 0 then airsUpto h l row tiles k else
  match airsUpto h l row tiles k with
  | none => some ((k : Int), (k : Int))
  | some (lo, _) => some (lo, (k : Int))
def airsR (h : Hall) (l : List Seen) (row : Int) (tiles : List Int) : (Int × Int) × Int :=
 if asked8 h l row tiles ≠ 0 then ((0, 0), asked8 h l row tiles) else
 match airsUpto h l row.toNat tiles 41 with
 | none => ((0, 0), 8)
 | some g => (g, 0)
def lexL : Nat → List Int → List (List Int)
 | 0, _ => [[]]
 | _ + 1, [] => []
 | k + 1, x :: of => ((lexL k of).map (x :: ·)) ++ lexL (k + 1) of
def leftL (of some_ : List Int) : List Int := of.filter fun i => !decide (i ∈ some_)
def numbersL (n : Nat) : List Int := (List.range n).map fun i : Nat => (i : Int)
def betterL (o : Option (List (List Int) × Int)) (x : List (List Int) × Int) : Option (List (List Int) × Int) :=
 match o with
 | none => some x
 | some y => if x.2 < y.2 then some x else some y
def leastL (l : List (List (List Int) × Int)) : Option (List (List Int) × Int) := l.foldl betterL none
def rowP (h : Hall) (row : Nat) : Nat := (h.rows.getD row dRow).places.toNat
def headL (x : List Int) (r : List (List Int) × Int) : List (List Int) × Int := (x :: r.1, r.2)
def bestR (h : Hall) (l : List Seen) : Nat → List Int → Int → Option (List (List Int) × Int)
 | 0, _, before => some ([], before)
 | k + 1, left, before => (lexL (rowP h (h.rows.length - (k + 1))) left).foldl (fun out x =>
   if wrong8 h.most (gap8 h l (h.rows.length - (k + 1)) x) ≠ 0 then out else
   match bestR h l k (leftL left x) (max before (gap8 h l (h.rows.length - (k + 1)) x).2) with
   | none => out
   | some r => betterL out (headL x r)) none
def hallE (h : Hall) (l : List Seen) : Int := if (seen8 h l).2 ≠ 0 then (seen8 h l).2 else if agree8 h l = false then 9 else 0
def layR (h : Hall) (l : List Seen) : List (List Int) × Int × Int :=
 if hallE h l ≠ 0 then ([], 0, hallE h l) else
 match bestR h l h.rows.length (numbersL h.tiles.length) 0 with
 | none => ([], 0, 8)
 | some (rows, gap) => (rows, gap, 0)
def withoutR (h : Hall) (l : List Seen) (t : Int) : Bool := (bestR h l h.rows.length (leftL (numbersL h.tiles.length) [t]) 0).isSome
def must8 (h : Hall) (l : List Seen) : List Int × Int :=
 if hallE h l ≠ 0 then ([], hallE h l) else
 if bestR h l h.rows.length (numbersL h.tiles.length) 0 = none then ([], 8) else
 ((numbersL h.tiles.length).filter fun t => !withoutR h l t, 0)
def fitL (h : Hall) (l : List Seen) (row : Nat) : List (List Int) := (lexL (rowP h row) (numbersL h.tiles.length)).filter fun x => wrong8 h.most (gap8 h l row x) == 0
def layL (h : Hall) (l : List Seen) : Nat → List Int → Int → List (List (List Int) × Int)
 | 0, _, before => [([], before)]
 | k + 1, used, before => (fitL h l (h.rows.length - (k + 1))).flatMap fun x =>
   if x.all (fun i => !decide (i ∈ used)) then (layL h l k (used ++ x) (max before (gap8 h l (h.rows.length - (k + 1)) x).2)).map (headL x) else []
theorem betterL_some (o : Option (List (List Int) × Int)) (x : List (List Int) × Int) : ∃ y, betterL o x = some y := by
 unfold betterL
 split
 ·exact ⟨_, rfl⟩
 split <;> exact ⟨_, rfl⟩
def better2 (a b : Option (List (List Int) × Int)) : Option (List (List Int) × Int) :=
 match b with
 | none => a
 | some y => betterL a y
theorem better2_assoc (a : Option (List (List Int) × Int)) (b : Option (List (List Int) × Int)) (x : List (List Int) × Int) : better2 a (betterL b x) = betterL (better2 a b) x := by
 cases b with
 | none => rfl
 | some y =>
  cases a with
  | none =>
   show better2 none (if x.2 < y.2 then some x else some y) = (if x.2 < y.2 then some x else some y)
   by_cases h : x.2 < y.2
   ·rw [if_pos h]; rfl
   ·rw [if_neg h]; rfl
  | some z =>
   show better2 (some z) (if x.2 < y.2 then some x else some y) = betterL (if y.2 < z.2 then some y else some z) x
   by_cases h : x.2 < y.2
   ·rw [if_pos h]
    by_cases h2 : y.2 < z.2
    ·rw [if_pos h2]
     show (if x.2 < z.2 then some x else some z) = (if x.2 < y.2 then some x else some y)
     rw [if_pos h, if_pos (by omega)]
    rw [if_neg h2]; rfl
   rw [if_neg h]
   by_cases h2 : y.2 < z.2
   ·rw [if_pos h2]
    show (if y.2 < z.2 then some y else some z) = (if x.2 < y.2 then some x else some y)
    rw [if_neg h, if_pos h2]
   rw [if_neg h2]
   show (if y.2 < z.2 then some y else some z) = (if x.2 < z.2 then some x else some z)
   rw [if_neg h2, if_neg (by omega)]
theorem foldl_better (l : List (List (List Int) × Int)) : ∀ a, l.foldl betterL a = better2 a (leastL l) := by
 have key : ∀ (l : List (List (List Int) × Int)) (a b), l.foldl betterL (better2 a b) = better2 a (l.foldl betterL b) := by
  intro l
  induction l with
  | nil => intro a b; rfl
  | cons x l ih => intro a b; rw [List.foldl_cons, List.foldl_cons, ← better2_assoc, ih]
 intro a
 exact key l a none
theorem least_append (l m : List (List (List Int) × Int)) : leastL (l ++ m) = better2 (leastL l) (leastL m) := by
 unfold leastL; rw [List.foldl_append, foldl_better]; rfl
theorem least_head (x : List Int) (l : List (List (List Int) × Int)) : leastL (l.map (headL x)) = (leastL l).map (headL x) := by
 have key : ∀ (l : List (List (List Int) × Int)) o, (l.map (headL x)).foldl betterL (o.map (headL x)) = (l.foldl betterL o).map (headL x) := by
  intro l
  induction l with
  | nil => intro o; rfl
  | cons y l ih =>
   intro o
   rw [List.map_cons, List.foldl_cons, List.foldl_cons, ← ih]
   congr 1
   cases o with
   | none => rfl
   | some z =>
    show (if y.2 < z.2 then some (headL x y) else some (headL x z)) = Option.map (headL x) (if y.2 < z.2 then some y else some z)
    by_cases h : y.2 < z.2
    ·rw [if_pos h, if_pos h]; rfl
    rw [if_neg h, if_neg h]; rfl
 exact key l none
theorem least_none (l : List (List (List Int) × Int)) : leastL l = none ↔ l = [] := by
 constructor
 ·intro h
  cases l with
  | nil => rfl
  | cons x l =>
   exfalso
   have : ∀ (l : List (List (List Int) × Int)) o, (∃ y, o = some y) → ∃ y, l.foldl betterL o = some y := by
    intro l
    induction l with
    | nil => intro o h; exact h
    | cons z l ih => intro o _; exact ih _ (betterL_some o z)
   obtain ⟨y, hy⟩ := this l (betterL none x) (betterL_some _ _)
   unfold leastL at h
   rw [List.foldl_cons, hy] at h
   cases h
 rintro rfl; rfl
theorem lex_sub : ∀ (k : Nat) (of : List Int) (x : List Int), x ∈ lexL k of → x.Sublist of ∧ x.length = k := by
 intro k of
 induction of generalizing k with
 | nil =>
  intro x hx
  cases k with
  | zero => simp [lexL] at hx; subst hx; exact ⟨List.Sublist.refl _, rfl⟩
  | succ k => simp [lexL] at hx
 | cons y of ih =>
  intro x hx
  cases k with
  | zero => simp [lexL] at hx; subst hx; exact ⟨List.nil_sublist _, rfl⟩
  | succ k =>
   rw [lexL, List.mem_append] at hx
   rcases hx with hx | hx
   ·obtain ⟨u, hu, rfl⟩ := List.mem_map.1 hx
    obtain ⟨h1, h2⟩ := ih k u hu
    exact ⟨h1.cons_cons y, by simp [h2]⟩
   obtain ⟨h1, h2⟩ := ih (k + 1) x hx
   exact ⟨h1.cons y, h2⟩
theorem lex_filter (p : Int → Bool) : ∀ (of : List Int) (k : Nat), lexL k (of.filter p) = (lexL k of).filter fun x => x.all p := by
 intro of
 induction of with
 | nil => intro k; cases k <;> rfl
 | cons y of ih =>
  intro k
  cases k with
  | zero => cases h : (y :: of).filter p <;> rfl
  | succ k =>
   by_cases hy : p y = true
   ·rw [List.filter_cons_of_pos hy, lexL, lexL, ih, ih, List.filter_append, List.filter_map]
    congr 1
    congr 1
    refine List.filter_congr fun x _ => ?_
    simp [hy]
   rw [List.filter_cons_of_neg hy, lexL, ih, List.filter_append]
   have : ((lexL k of).map (y :: ·)).filter (fun x => x.all p) = [] := by
    rw [List.filter_eq_nil_iff]
    intro x hx
    obtain ⟨u, _, rfl⟩ := List.mem_map.1 hx
    simp [hy]
   rw [this]; rfl
theorem best_lay (h : Hall) (l : List Seen) : ∀ (k : Nat) (used : List Int) (before : Int), bestR h l k (leftL (numbersL h.tiles.length) used) before = leastL (layL h l k used before) := by
 intro k
 induction k with
 | zero => intro used before; rfl
 | succ k ih =>
  intro used before
  rw [bestR, layL]
  have hl : leftL (numbersL h.tiles.length) used = (numbersL h.tiles.length).filter (fun i => !decide (i ∈ used)) := rfl
  rw [hl, lex_filter]
  have hF : ∀ x : List Int, leftL ((numbersL h.tiles.length).filter fun i => !decide (i ∈ used)) x = leftL (numbersL h.tiles.length) (used ++ x) := by
   intro x
   unfold leftL
   rw [List.filter_filter]
   refine List.filter_congr fun i _ => ?_
   by_cases h1 : i ∈ used <;> by_cases h2 : i ∈ x <;> simp [h1, h2]
  unfold fitL
  have key : ∀ (L : List (List Int)) (a : Option (List (List Int) × Int)), (L.filter fun x => x.all fun i => !decide (i ∈ used)).foldl (fun out x =>
    if wrong8 h.most (gap8 h l (h.rows.length - (k + 1)) x) ≠ 0 then out else
    match bestR h l k (leftL ((numbersL h.tiles.length).filter fun i => !decide (i ∈ used)) x) (max before (gap8 h l (h.rows.length - (k + 1)) x).2) with
    | none => out
    | some r => betterL out (headL x r)) a = better2 a (leastL ((L.filter fun x => wrong8 h.most (gap8 h l (h.rows.length - (k + 1)) x) == 0).flatMap fun x =>
   if x.all (fun i => !decide (i ∈ used)) then (layL h l k (used ++ x) (max before (gap8 h l (h.rows.length - (k + 1)) x).2)).map (headL x) else [])) := by
   intro L
   induction L with
   | nil => intro a; rfl
   | cons x L ihL =>
    intro a
    by_cases hu : (x.all fun i => !decide (i ∈ used)) = true
    ·rw [List.filter_cons_of_pos (p := fun x : List Int => x.all fun i => !decide (i ∈ used)) hu, List.foldl_cons, ihL]
     by_cases hw : wrong8 h.most (gap8 h l (h.rows.length - (k + 1)) x) = 0
     ·rw [List.filter_cons_of_pos (by simpa using hw), List.flatMap_cons, if_pos hu, least_append, least_head, if_neg (by simpa using hw), hF, ih]
      cases hb : leastL (layL h l k (used ++ x) (max before (gap8 h l (h.rows.length - (k + 1)) x).2)) with
      | none =>
       simp only [Option.map_none]
       generalize leastL _ = o
       cases o <;> rfl
      | some r =>
       simp only [Option.map_some]
       generalize leastL _ = o
       cases o with
       | none => rfl
       | some y => exact (better2_assoc a (some (headL x r)) y).symm
     rw [List.filter_cons_of_neg (by simpa using hw), if_pos hw]
    rw [List.filter_cons_of_neg (p := fun x : List Int => x.all fun i => !decide (i ∈ used)) hu, ihL]
    by_cases hw : wrong8 h.most (gap8 h l (h.rows.length - (k + 1)) x) = 0
    ·rw [List.filter_cons_of_pos (by simpa using hw), List.flatMap_cons, if_neg hu, List.nil_append]
    rw [List.filter_cons_of_neg (by simpa using hw)]
  rw [key]
  generalize leastL _ = o
  cases o <;> rfl
theorem left_none (of : List Int) : leftL of [] = of := by unfold leftL; simp
theorem best_all (h : Hall) (l : List Seen) : bestR h l h.rows.length (numbersL h.tiles.length) 0 = leastL (layL h l h.rows.length [] 0) := by
 rw [← best_lay, left_none]
theorem without_lay (h : Hall) (l : List Seen) (t : Int) : withoutR h l t = (leastL (layL h l h.rows.length [t] 0)).isSome := by
 unfold withoutR; rw [best_lay]
theorem least_spec : ∀ (X : List (List (List Int) × Int)) (o : Option (List (List Int) × Int)), (∀ x ∈ X, ∃ z, X.foldl betterL o = some z ∧ z.2 ≤ x.2) ∧ (∀ z, o = some z → ∃ u, X.foldl betterL o = some u ∧ u.2 ≤ z.2) ∧ (∀ z, X.foldl betterL o = some z → o = some z ∨ z ∈ X) := by
 intro X
 induction X with
 | nil => intro o; exact ⟨fun x hx => (by cases hx), fun z hz => ⟨z, hz, Int.le_refl _⟩, fun z hz => .inl hz⟩
 | cons x X ih =>
  intro o
  obtain ⟨h1, h2, h3⟩ := ih (betterL o x)
  rw [List.foldl_cons]
  have hb : ∃ b, betterL o x = some b ∧ b.2 ≤ x.2 ∧ (∀ z, o = some z → b.2 ≤ z.2) ∧ (o = some b ∨ b = x) := by
   unfold betterL
   cases o with
   | none => exact ⟨x, rfl, Int.le_refl _, (fun z hz => by cases hz), .inr rfl⟩
   | some z =>
    dsimp only
    by_cases hlt : x.2 < z.2
    ·rw [if_pos hlt]; exact ⟨x, rfl, Int.le_refl _, (fun u hu => by cases hu; omega), .inr rfl⟩
    rw [if_neg hlt]; exact ⟨z, rfl, by omega, (fun u hu => by cases hu; exact Int.le_refl _), .inl rfl⟩
  obtain ⟨b, hb1, hb2, hb3, hb4⟩ := hb
  obtain ⟨u, hu1, hu2⟩ := h2 b hb1
  refine ⟨fun z hz => ?_, fun z hz => ⟨u, hu1, by have := hb3 z hz; omega⟩, fun z hz => ?_⟩
  ·rcases List.mem_cons.1 hz with rfl | hz
   ·exact ⟨u, hu1, by omega⟩
   exact h1 z hz
  rcases h3 z hz with h4 | h4
  ·rw [hb1] at h4
   have h4 := Option.some.inj h4
   subst h4
   rcases hb4 with h5 | h5
   ·exact .inl h5
   exact .inr (by rw [h5]; exact List.mem_cons_self)
  exact .inr (List.mem_cons_of_mem _ h4)
end Go.Proofs.YtdbfincinjoppaaGreat
