/- The plain functions that the walks speak of. Nothing of a program stands here. -/
import Derived.WalkKit
set_option linter.unusedVariables false
set_option linter.unusedSimpArgs false
set_option linter.all false
namespace Go.Proofs.YtpdldmichpmgmaaGreat
open Go.RowKit

def letter (b : UInt8) : Bool := decide ((97 : Int) ≤ b.toNat) && decide ((b.toNat : Int) ≤ 122)
def okByte (b : UInt8) : Bool := letter b || (decide ((48 : Int) ≤ b.toNat) && decide ((b.toNat : Int) ≤ 57)) || decide ((b.toNat : Int) = 45)
/-- P1.1: a name -/
def isName (s : List UInt8) : Bool :=
  decide (1 ≤ s.length) && decide (s.length ≤ 16) && letter (s.getD 0 0) && s.all okByte

theorem okByte_iff (b : UInt8) : okByte b = true ↔ ((97 : Int) ≤ b.toNat ∧ (b.toNat : Int) ≤ 122) ∨ ((48 : Int) ≤ b.toNat ∧ (b.toNat : Int) ≤ 57) ∨ (b.toNat : Int) = 45 := by
  simp [okByte, letter, or_assoc]
theorem okByte_false (b : UInt8) (h : ¬ (((97 : Int) ≤ b.toNat ∧ (b.toNat : Int) ≤ 122) ∨ ((48 : Int) ≤ b.toNat ∧ (b.toNat : Int) ≤ 57) ∨ (b.toNat : Int) = 45)) : okByte b = false := by
  rw [← Bool.not_eq_true, okByte_iff]; exact h
theorem byte_get (s : ByteArray) (k : Nat) (h : k < s.size) : s.data.toList[k]? = some s[k] := by
  rw [List.getElem?_eq_getElem (by simpa using h)]; rfl
theorem name_no (s : ByteArray) (k : Nat) (h : k < s.size) (hb : okByte s[k] = false) : isName s.data.toList = false := by
  have : s.data.toList.all okByte = false := by
    rw [← Bool.not_eq_true]
    intro ha
    rw [List.all_eq_true.1 ha s[k] (List.mem_of_getElem? (byte_get s k h))] at hb
    cases hb
  simp [isName, this]
theorem letter_iff (b : UInt8) : letter b = true ↔ ((97 : Int) ≤ b.toNat ∧ (b.toNat : Int) ≤ 122) := by simp [letter]
theorem getD_zero (s : ByteArray) (h : 0 < s.size) : s.data.toList.getD 0 0 = s[0] := by
  rw [List.getD_eq_getElem?_getD, byte_get s 0 h]; rfl
theorem name_first (s : ByteArray) (h : 0 < s.size) (hb : letter s[0] = false) : isName s.data.toList = false := by
  unfold isName; rw [getD_zero s h, hb]; simp
theorem name_yes (s : ByteArray) (h : 0 < s.size) (h16 : s.size ≤ 16) (hl : letter s[0] = true) (ha : (s.data.toList.take s.size).all okByte = true) : isName s.data.toList = true := by
  have e : s.data.toList.length = s.size := by simp
  rw [List.take_of_length_le (by omega)] at ha
  unfold isName
  rw [getD_zero s h, hl, ha, e]
  simp; omega
theorem byte_cases (b : UInt8) :
    (okByte b = false ∧ (((b.toNat : Int) < 45 ∧ ((b.toNat : Int) != 45) = true) ∨ ((46 : Int) ≤ b.toNat ∧ (b.toNat : Int) ≤ 47 ∧ ((b.toNat : Int) != 45) = true) ∨ ((58 : Int) ≤ b.toNat ∧ (b.toNat : Int) ≤ 96 ∧ ((b.toNat : Int) != 45) = true) ∨ ((123 : Int) ≤ b.toNat ∧ ((b.toNat : Int) != 45) = true))) ∨
    (okByte b = true ∧ (((45 : Int) ≤ b.toNat ∧ (b.toNat : Int) ≤ 45 ∧ ((b.toNat : Int) != 45) = false) ∨ ((48 : Int) ≤ b.toNat ∧ (b.toNat : Int) ≤ 57) ∨ ((97 : Int) ≤ b.toNat ∧ (b.toNat : Int) ≤ 122))) := by
  have hn : ∀ n : Int, n ≠ 45 → (n != 45) = true := fun n h => by simpa using h
  by_cases h : ((97 : Int) ≤ b.toNat ∧ (b.toNat : Int) ≤ 122) ∨ ((48 : Int) ≤ b.toNat ∧ (b.toNat : Int) ≤ 57) ∨ (b.toNat : Int) = 45
  · refine .inr ⟨(okByte_iff b).2 h, ?_⟩
    rcases h with h | h | h
    · exact .inr (.inr h)
    · exact .inr (.inl h)
    · exact .inl ⟨by omega, by omega, by rw [h]; rfl⟩
  · refine .inl ⟨okByte_false b h, ?_⟩
    have h45 := hn b.toNat (by omega)
    by_cases h1 : (b.toNat : Int) < 45
    · exact .inl ⟨h1, h45⟩
    · by_cases h2 : (b.toNat : Int) ≤ 47
      · exact .inr (.inl ⟨by omega, h2, h45⟩)
      · by_cases h3 : (b.toNat : Int) ≤ 96
        · exact .inr (.inr (.inl ⟨by omega, h3, h45⟩))
        · exact .inr (.inr (.inr ⟨by omega, h45⟩))
theorem take_all (s : ByteArray) (k : Nat) (h : k < s.size) (ha : (s.data.toList.take k).all okByte = true) (hb : okByte s[k] = true) : (s.data.toList.take (k + 1)).all okByte = true := by
  rw [List.take_add_one, byte_get s k h, List.all_append, ha]; simp [hb]
theorem name_long (s : ByteArray) (h : ¬ (1 ≤ s.size ∧ s.size ≤ 16)) : isName s.data.toList = false := by
  have e : s.data.toList.length = s.size := by simp
  unfold isName; rw [e]; simp; omega

/-- the first place of a string in a list, or -1 -/
def place : List (List UInt8) → List UInt8 → Int
  | [], _ => -1
  | x :: l, s => if x = s then 0 else if place l s < 0 then -1 else place l s + 1

theorem place_none {l : List (List UInt8)} {s : List UInt8} (h : s ∉ l) : place l s = -1 := by
  induction l with
  | nil => rfl
  | cons x l ih =>
    simp only [List.mem_cons, not_or] at h
    rw [place, if_neg (fun e => h.1 e.symm), ih h.2]; simp
theorem place_found {l : List (List UInt8)} {s : List UInt8} {k : Nat} (h : l[k]? = some s) (hn : s ∉ l.take k) : place l s = k := by
  induction l generalizing k with
  | nil => simp at h
  | cons x l ih =>
    cases k with
    | zero => simp at h; simp [place, h]
    | succ k =>
      simp only [List.take_succ_cons, List.mem_cons, not_or] at hn
      have := ih (k := k) (by simpa using h) hn.2
      rw [place, if_neg (fun e => hn.1 e.symm), this, if_neg (by omega)]
      omega
theorem place_neg (l : List (List UInt8)) (s : List UInt8) : place l s < 0 ↔ s ∉ l := by
  constructor
  · intro h hm
    obtain ⟨k, hk⟩ := List.getElem?_of_mem hm
    induction l generalizing k with
    | nil => simp at hm
    | cons x l ih =>
      rw [place] at h
      split at h
      · omega
      · rename_i hne
        split at h
        · rename_i h2
          have hm' : s ∈ l := by
            rcases List.mem_cons.1 hm with e | e
            · exact absurd e.symm hne
            · exact e
          obtain ⟨k', hk'⟩ := List.getElem?_of_mem hm'
          exact ih h2 hm' k' hk'
        · omega
  · intro h; rw [place_none h]; omega

/-- P1: the error of a fresh name -/
def fresh (s : List UInt8) (l : List (List UInt8)) : Int := if isName s then (if s ∈ l then 5 else 0) else 6

structure Span where
  lo : Int
  hi : Int
  deriving DecidableEq

def inB (n lo hi : Int) : Bool := decide (lo ≤ n) && decide (n ≤ hi)

/-- the error of some spans -/
def spreadGo (lo hi : Int) : List Span → Int → Int
  | [], e => e
  | s :: l, e => if !inB s.lo lo hi || !inB s.hi lo hi then 7 else spreadGo lo hi l (if s.lo > s.hi then 2 else e)
def spread (l : List Span) (lo hi : Int) : Int := spreadGo lo hi l 0
def rangeE (s : Span) (lo hi : Int) : Int := if !inB s.lo lo hi || !inB s.hi lo hi then 7 else if s.lo > s.hi then 2 else 0

end Go.Proofs.YtpdldmichpmgmaaGreat
