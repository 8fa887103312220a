/- A part of the proof that TopMoulds always answers true. -/
import Derived.WalkKit
set_option linter.all false
namespace Go.Proofs.YtkpbchnggdnmaaaGreat
open Go.RowKit
def letter (b : UInt8) : Bool := decide ((97 : Int) ≤ b.toNat) && decide ((b.toNat : Int) ≤ 122)
def okByte (b : UInt8) : Bool := letter b || (decide ((48 : Int) ≤ b.toNat) && decide ((b.toNat : Int) ≤ 57)) || decide ((b.toNat : Int) = 45)
def isName (s : List UInt8) : Bool :=
 decide (1 ≤ s.length) && decide (s.length ≤ 16) && letter (s.getD 0 0) && s.all okByte
theorem okByte_iff (b : UInt8) : okByte b = true ↔ ((97 : Int) ≤ b.toNat ∧ (b.toNat : Int) ≤ 122) ∨ ((48 : Int) ≤ b.toNat ∧ (b.toNat : Int) ≤ 57) ∨ (b.toNat : Int) = 45 := by
 simp [okByte, letter, or_assoc]
theorem okByte_false (b : UInt8) (h : ¬ (((97 : Int) ≤ b.toNat ∧ (b.toNat : Int) ≤ 122) ∨ ((48 : Int) ≤ b.toNat ∧ (b.toNat : Int) ≤ 57) ∨ (b.toNat : Int) = 45)) : okByte b = false := by
 rw [← Bool.not_eq_true, okByte_iff]; exact h
theorem byte_get (s : ByteArray) (k : Nat) (h : k < s.size) : s.data.toList[k]? = some s[k] := by
 rw [List.getElem?_eq_getElem (by simpa using h)]; rfl
theorem name_no (s : ByteArray) (k : Nat) (h : k < s.size) (hb : okByte s[k] = false) : isName s.data.toList = false := by
 have : s.data.toList.all okByte = false := by
  rw [← Bool.not_eq_true]
  intro ha
  rw [List.all_eq_true.1 ha s[k] (List.mem_of_getElem? (byte_get s k h))] at hb
  cases hb
 simp [isName, this]
theorem letter_iff (b : UInt8) : letter b = true ↔ ((97 : Int) ≤ b.toNat ∧ (b.toNat : Int) ≤ 122) := by simp [letter]
theorem getD_zero (s : ByteArray) (h : 0 < s.size) : s.data.toList.getD 0 0 = s[0] := by
 rw [List.getD_eq_getElem?_getD, byte_get s 0 h]; rfl
theorem name_first (s : ByteArray) (h : 0 < s.size) (hb : letter s[0] = false) : isName s.data.toList = false := by
 unfold isName; rw [getD_zero s h, hb]; simp
theorem name_yes (s : ByteArray) (h : 0 < s.size) (h16 : s.size ≤ 16) (hl : letter s[0] = true) (ha : (s.data.toList.take s.size).all okByte = true) : isName s.data.toList = true := by
 have e : s.data.toList.length = s.size := by simp
 rw [List.take_of_length_le (by omega)] at ha
 unfold isName
 rw [getD_zero s h, hl, ha, e]
 simp; omega
theorem byte_cases (b : UInt8) :
  (okByte b = false ∧ (((b.toNat : Int) < 45 ∧ ((b.toNat : Int) != 45) = true) ∨ ((46 : Int) ≤ b.toNat ∧ (b.toNat : Int) ≤ 47 ∧ ((b.toNat : Int) != 45) = true) ∨ ((58 : Int) ≤ b.toNat ∧ (b.toNat : Int) ≤ 96 ∧ ((b.toNat : Int) != 45) = true) ∨ ((123 : Int) ≤ b.toNat ∧ ((b.toNat : Int) != 45) = true))) ∨
  (okByte b = true ∧ (((45 : Int) ≤ b.toNat ∧ (b.toNat : Int) ≤ 45 ∧ ((b.toNat : Int) != 45) = false) ∨ ((48 : Int) ≤ b.toNat ∧ (b.toNat : Int) ≤ 57) ∨ ((97 : Int) ≤ b.toNat ∧ (b.toNat : Int) ≤ 122))) := by
 have hn : ∀ n : Int, n ≠ 45 → (n != 45) = true := fun n h => by simpa using h
 by_cases h : ((97 : Int) ≤ b.toNat ∧ (b.toNat : Int) ≤ 122) ∨ ((48 : Int) ≤ b.toNat ∧ (b.toNat : Int) ≤ 57) ∨ (b.toNat : Int) = 45
 ·refine .inr ⟨(okByte_iff b).2 h, ?_⟩
  rcases h with h | h | h
  ·exact .inr (.inr h)
  ·exact .inr (.inl h)
  exact .inl ⟨by omega, by omega, by rw [h]; rfl⟩
 refine .inl ⟨okByte_false b h, ?_⟩
 have h45 := hn b.toNat (by omega)
 by_cases h1 : (b.toNat : Int) < 45
 ·exact .inl ⟨h1, h45⟩
 by_cases h2 : (b.toNat : Int) ≤ 47
 ·exact .inr (.inl ⟨by omega, h2, h45⟩)
 by_cases h3 : (b.toNat : Int) ≤ 96
 ·exact .inr (.inr (.inl ⟨by omega, h3, h45⟩))
 exact .inr (.inr (.inr ⟨by omega, h45⟩))
theorem take_all (s : ByteArray) (k : Nat) (h : k < s.size) (ha : (s.data.toList.take k).all okByte = true) (hb : okByte s[k] = true) : (s.data.toList.take (k + 1)).all okByte = true := by
 rw [List.take_add_one, byte_get s k h, List.all_append, ha]; simp [hb]
theorem name_long (s : ByteArray) (h : ¬ (1 ≤ s.size ∧ s.size ≤ 16)) : isName s.data.toList = false := by
 have e : s.data.toList.length = s.size := by simp
 unfold isName; rw [e]; simp; omega
def place : List (List UInt8) → List UInt8 → Int
 | [], _ => -1
 | x :: l, s => if x = s then 0 else if place l s < 0 then -1 else place l s + 1
theorem place_none {l : List (List UInt8)} {s : List UInt8} (h : s ∉ l) : place l s = -1 := by
 induction l with
 | nil => rfl
 | cons x l ih =>
  simp only [List.mem_cons, not_or] at h
  rw [place, if_neg (fun e => h.1 e.symm), ih h.2]; simp
theorem place_found {l : List (List UInt8)} {s : List UInt8} {k : Nat} (h : l[k]? = some s) (hn : s ∉ l.take k) : place l s = k := by
 induction l generalizing k with
 | nil => simp at h
 | cons x l ih =>
  cases k with
  | zero => simp at h; simp [place, h]
  | succ k =>
   simp only [List.take_succ_cons, List.mem_cons, not_or] at hn
   have := ih (k := k) (by simpa using h) hn.2
   rw [place, if_neg (fun e => hn.1 e.symm), this, if_neg (by omega)]
   omega
theorem place_neg (l : List (List UInt8)) (s : List UInt8) : place l s < 0 ↔ s ∉ l := by
 constructor
 ·intro h hm
  obtain ⟨k, hk⟩ := List.getElem?_of_mem hm
  induction l generalizing k with
  | nil => simp at hm
  | cons x l ih =>
   rw [place] at h
   split at h
   ·omega
   rename_i hne
   split at h
   ·rename_i h2
    have hm' : s ∈ l := by
     rcases List.mem_cons.1 hm with e | e
     ·exact absurd e.symm hne
     exact e
    obtain ⟨k', hk'⟩ := List.getElem?_of_mem hm'
    exact ih h2 hm' k' hk'
   omega
 intro h; rw [place_none h]; omega
def fresh (s : List UInt8) (l : List (List UInt8)) : Int := if isName s then (if s ∈ l then 5 else 0) else 6
structure Span where
 lo : Int
 hi : Int
 deriving DecidableEq
def inB (n lo hi : Int) : Bool := decide (lo ≤ n) && decide (n ≤ hi)
def spreadGo (lo hi : Int) : List Span → Int → Int
 | [], e => e
 | s :: l, e => if !inB s.lo lo hi || !inB s.hi lo hi then 7 else spreadGo lo hi l (if s.lo > s.hi then 2 else e)
def spread (l : List Span) (lo hi : Int) : Int := spreadGo lo hi l 0
def rangeE (s : Span) (lo hi : Int) : Int := if !inB s.lo lo hi || !inB s.hi lo hi then 7 else if s.lo > s.hi then 2 else 0
def firstErr (f : Nat → Int) : Nat → Option (Nat × Int)
 | 0 => none
 | n + 1 => match firstErr f n with
  | some r => some r
  | none => if f n = 0 then none else some (n, f n)
theorem firstErr_none {f : Nat → Int} {n : Nat} (h : ∀ k, k < n → f k = 0) : firstErr f n = none := by
 induction n with
 | zero => rfl
 | succ n ih => simp [firstErr, ih (fun k hk => h k (by omega)), h n (by omega)]
theorem firstErr_some {f : Nat → Int} {n k : Nat} (hk : k < n) (h : ∀ j, j < k → f j = 0) (he : f k ≠ 0) : firstErr f n = some (k, f k) := by
 induction n with
 | zero => omega
 | succ n ih =>
  by_cases hkn : k = n
  ·subst hkn
   simp [firstErr, firstErr_none h, he]
  simp [firstErr, ih (by omega)]
theorem firstErr_cases (f : Nat → Int) (n : Nat) : (firstErr f n = none ∧ ∀ k, k < n → f k = 0) ∨ ∃ k, k < n ∧ firstErr f n = some (k, f k) ∧ f k ≠ 0 ∧ ∀ j, j < k → f j = 0 := by
 induction n with
 | zero => exact .inl ⟨rfl, fun k h => by omega⟩
 | succ n ih =>
  rcases ih with ⟨h, ha⟩ | ⟨k, hk, h, he, hj⟩
  ·by_cases he : f n = 0
   ·exact .inl ⟨by simp [firstErr, h, he], fun k hk => by rcases Nat.lt_or_eq_of_le (Nat.le_of_lt_succ hk) with h1 | h1; exact ha k h1; rw [h1]; exact he⟩
   exact .inr ⟨n, by omega, by simp [firstErr, h, he], he, ha⟩
  exact .inr ⟨k, by omega, by simp [firstErr, h], he, hj⟩
theorem upto_succ {f : Nat → Int} {k : Nat} (h : ∀ j, j < k → f j = 0) (hk : f k = 0) : ∀ j, j < k + 1 → f j = 0 := by
 intro j hj
 rcases Nat.lt_or_eq_of_le (Nat.le_of_lt_succ hj) with h1 | h1
 ·exact h j h1
 rw [h1]; exact hk
theorem getD_of {α : Type} {l : List α} {k : Nat} {x d : α} (h : l[k]? = some x) : l.getD k d = x := by rw [List.getD_eq_getElem?_getD, h]; rfl
def ends (lo hi : Int) : List Int → Int × Int
 | [] => (lo, hi)
 | x :: l => ends (min lo x) (max hi x) l
def endsOf : List Int → Int × Int
 | [] => (0, 0)
 | x :: l => ends x x l
theorem ends_snoc (l : List Int) (x : Int) : ∀ lo hi, ends lo hi (l ++ [x]) = (min (ends lo hi l).1 x, max (ends lo hi l).2 x) := by
 induction l with
 | nil => intro lo hi; rfl
 | cons y l ih => intro lo hi; exact ih _ _
theorem endsOf_snoc {l : List Int} (h : l ≠ []) (x : Int) : endsOf (l ++ [x]) = (min (endsOf l).1 x, max (endsOf l).2 x) := by
 cases l with
 | nil => exact absurd rfl h
 | cons y l => exact ends_snoc l x y y
theorem endsOf_one (x : Int) : endsOf [x] = (x, x) := rfl
structure Mould where
 name : List UInt8
 slo : Int
 shi : Int
 wlo : Int
 whi : Int
 casts : Int
structure Shop where
 klo : Int
 khi : Int
 moulds : List Mould
structure SeenC where
 mould : Int
 cast : Int
 lo : Int
 hi : Int
def dMould : Mould := ⟨[], 0, 0, 0, 0, 0⟩
def dSeenC : SeenC := ⟨0, 0, 0, 0⟩
def mouldN (x : Mould) : Int :=
 if !inB x.slo 1 20000 || !inB x.shi 1 20000 || !inB x.wlo 0 20 || !inB x.whi 0 20 || !inB x.casts 1 8 then 7
 else if !inB x.shi x.slo (x.slo + 12) || !inB x.whi x.wlo (x.wlo + 3) then 2 else 0
def mouldE (l : List Mould) (k : Nat) : Int :=
 let x := l.getD k dMould
 let e := fresh x.name ((l.take k).map (·.name))
 if e ≠ 0 then e else mouldN x
def check7 (s : Shop) : Int × Int × Int :=
 if !inB s.klo 0 100 || !inB s.khi 0 100 then (1, 0, 7)
 else if !inB s.khi s.klo (s.klo + 6) then (1, 0, 2)
 else if ¬ (1 ≤ s.moulds.length ∧ s.moulds.length ≤ 4) then (1, 0, 3)
 else match firstErr (mouldE s.moulds) s.moulds.length with
 | some (k, e) => (2, k, e)
 | none => (0, 0, 0)
def err7 (s : Shop) : Int := (check7 s).2.2
def there7 (s : Shop) (m c : Int) : Bool := inB m 0 ((s.moulds.length : Int) - 1) && inB c 0 ((s.moulds.getD m.toNat dMould).casts - 1)
def seenE7 (s : Shop) (l : List SeenC) (k : Nat) : Int :=
 let x := l.getD k dSeenC
 if !there7 s x.mould x.cast then 4 else rangeE ⟨x.lo, x.hi⟩ 0 20000
def seen7 (s : Shop) (l : List SeenC) : Int × Int :=
 if err7 s ≠ 0 then (0, err7 s) else if 6 < l.length then (0, 3) else
 match firstErr (seenE7 s l) l.length with
 | some (k, e) => (k, e)
 | none => (0, 0)
def made7 (size wear cast shrink : Int) : Int := (size + wear * cast) - ((size + wear * cast) * shrink).tdiv 1000
def twoOk7 (l : List SeenC) (m : Nat) (k a w : Int) : Bool := l.all fun y => !(y.mould == (m : Int)) || inB (made7 a w y.cast k) y.lo y.hi
def sizeN (x : Mould) : Nat := (x.shi - x.slo + 1).toNat
def wearN (x : Mould) : Nat := (x.whi - x.wlo + 1).toNat
def pairC (x : Mould) (i : Nat) : Int × Int := (x.slo + ((i / wearN x : Nat) : Int), x.wlo + ((i % wearN x : Nat) : Int))
def twosC (s : Shop) (l : List SeenC) (m : Nat) (k : Int) : List (Int × Int) := ((List.range (sizeN (s.moulds.getD m dMould) * wearN (s.moulds.getD m dMould))).map (pairC (s.moulds.getD m dMould))).filter fun p => twoOk7 l m k p.1 p.2
def knownB (s : Shop) (l : List SeenC) (k : Int) : Bool := (List.range s.moulds.length).all fun m => !(twosC s l m k).isEmpty
def shrinkL (s : Shop) : List Int := (List.range (s.khi - s.klo + 1).toNat).map fun i : Nat => s.klo + (i : Int)
def known7 (s : Shop) (l : List SeenC) : List Int := (shrinkL s).filter (knownB s l)
def madeL (s : Shop) (l : List SeenC) (m : Nat) (c : Int) : List Int := (known7 s l).flatMap fun k => (twosC s l m k).map fun p => made7 p.1 p.2 c k
def size7 (s : Shop) (l : List SeenC) (m : Nat) (c : Int) : Int × Int := endsOf (madeL s l m c)
def agreeE7 (s : Shop) (l : List SeenC) (e : Int) : Int := if e = 0 ∧ known7 s l = [] then 9 else e
def sizesR (s : Shop) (l : List SeenC) (m c : Int) : (Int × Int) × Int :=
 if (seen7 s l).2 ≠ 0 then ((0, 0), (seen7 s l).2) else
 if !there7 s m c then ((0, 0), 4) else
 if known7 s l = [] then ((0, 0), 9) else (size7 s l m.toNat c, 0)
def shrinksR (s : Shop) (l : List SeenC) : List Int × Int :=
 if (seen7 s l).2 ≠ 0 then ([], (seen7 s l).2) else
 if known7 s l = [] then ([], 9) else (known7 s l, 0)
def placesL (s : Shop) : List (Nat × Nat) := (List.range s.moulds.length).flatMap fun m => (List.range (s.moulds.getD m dMould).casts.toNat).map fun c => (m, c)
def fit7 (s : Shop) (l : List SeenC) (a z : Int) : List (Nat × Nat) := (placesL s).filter fun p => decide (a ≤ (size7 s l p.1 p.2).1) && decide ((size7 s l p.1 p.2).2 ≤ z)
def fitsR (s : Shop) (l : List SeenC) (a z : Int) : List (Nat × Nat) × Int :=
 if (seen7 s l).2 ≠ 0 then ([], (seen7 s l).2) else
 if rangeE ⟨a, z⟩ 0 20000 ≠ 0 then ([], rangeE ⟨a, z⟩ 0 20000) else
 if known7 s l = [] then ([], 9) else (fit7 s l a z, 0)
end Go.Proofs.YtkpbchnggdnmaaaGreat
