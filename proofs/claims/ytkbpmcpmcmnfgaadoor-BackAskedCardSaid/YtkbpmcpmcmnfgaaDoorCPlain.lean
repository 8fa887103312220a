/- The plain functions that the walks speak of. Nothing of a program stands here. -/
import Derived.WalkKit
set_option linter.unusedVariables false
set_option linter.unusedSimpArgs false
set_option linter.all false
namespace Go.Proofs.YtkbpmcpmcmnfgaaDoor
open Go.RowKit

def letter (b : UInt8) : Bool := decide ((97 : Int) ≤ b.toNat) && decide ((b.toNat : Int) ≤ 122)
def okByte (b : UInt8) : Bool := letter b || (decide ((48 : Int) ≤ b.toNat) && decide ((b.toNat : Int) ≤ 57)) || decide ((b.toNat : Int) = 45)
/-- P1.1: a name -/
def isName (s : List UInt8) : Bool :=
  decide (1 ≤ s.length) && decide (s.length ≤ 16) && letter (s.getD 0 0) && s.all okByte

theorem okByte_iff (b : UInt8) : okByte b = true ↔ ((97 : Int) ≤ b.toNat ∧ (b.toNat : Int) ≤ 122) ∨ ((48 : Int) ≤ b.toNat ∧ (b.toNat : Int) ≤ 57) ∨ (b.toNat : Int) = 45 := by
  simp [okByte, letter, or_assoc]
theorem okByte_false (b : UInt8) (h : ¬ (((97 : Int) ≤ b.toNat ∧ (b.toNat : Int) ≤ 122) ∨ ((48 : Int) ≤ b.toNat ∧ (b.toNat : Int) ≤ 57) ∨ (b.toNat : Int) = 45)) : okByte b = false := by
  rw [← Bool.not_eq_true, okByte_iff]; exact h
theorem byte_get (s : ByteArray) (k : Nat) (h : k < s.size) : s.data.toList[k]? = some s[k] := by
  rw [List.getElem?_eq_getElem (by simpa using h)]; rfl
theorem name_no (s : ByteArray) (k : Nat) (h : k < s.size) (hb : okByte s[k] = false) : isName s.data.toList = false := by
  have : s.data.toList.all okByte = false := by
    rw [← Bool.not_eq_true]
    intro ha
    rw [List.all_eq_true.1 ha s[k] (List.mem_of_getElem? (byte_get s k h))] at hb
    cases hb
  simp [isName, this]
theorem letter_iff (b : UInt8) : letter b = true ↔ ((97 : Int) ≤ b.toNat ∧ (b.toNat : Int) ≤ 122) := by simp [letter]
theorem getD_zero (s : ByteArray) (h : 0 < s.size) : s.data.toList.getD 0 0 = s[0] := by
  rw [List.getD_eq_getElem?_getD, byte_get s 0 h]; rfl
theorem name_first (s : ByteArray) (h : 0 < s.size) (hb : letter s[0] = false) : isName s.data.toList = false := by
  unfold isName; rw [getD_zero s h, hb]; simp
theorem name_yes (s : ByteArray) (h : 0 < s.size) (h16 : s.size ≤ 16) (hl : letter s[0] = true) (ha : (s.data.toList.take s.size).all okByte = true) : isName s.data.toList = true := by
  have e : s.data.toList.length = s.size := by simp
  rw [List.take_of_length_le (by omega)] at ha
  unfold isName
  rw [getD_zero s h, hl, ha, e]
  simp; omega
theorem byte_cases (b : UInt8) :
    (okByte b = false ∧ (((b.toNat : Int) < 45 ∧ ((b.toNat : Int) != 45) = true) ∨ ((46 : Int) ≤ b.toNat ∧ (b.toNat : Int) ≤ 47 ∧ ((b.toNat : Int) != 45) = true) ∨ ((58 : Int) ≤ b.toNat ∧ (b.toNat : Int) ≤ 96 ∧ ((b.toNat : Int) != 45) = true) ∨ ((123 : Int) ≤ b.toNat ∧ ((b.toNat : Int) != 45) = true))) ∨
    (okByte b = true ∧ (((45 : Int) ≤ b.toNat ∧ (b.toNat : Int) ≤ 45 ∧ ((b.toNat : Int) != 45) = false) ∨ ((48 : Int) ≤ b.toNat ∧ (b.toNat : Int) ≤ 57) ∨ ((97 : Int) ≤ b.toNat ∧ (b.toNat : Int) ≤ 122))) := by
  have hn : ∀ n : Int, n ≠ 45 → (n != 45) = true := fun n h => by simpa using h
  by_cases h : ((97 : Int) ≤ b.toNat ∧ (b.toNat : Int) ≤ 122) ∨ ((48 : Int) ≤ b.toNat ∧ (b.toNat : Int) ≤ 57) ∨ (b.toNat : Int) = 45
  · refine .inr ⟨(okByte_iff b).2 h, ?_⟩
    rcases h with h | h | h
    · exact .inr (.inr h)
    · exact .inr (.inl h)
    · exact .inl ⟨by omega, by omega, by rw [h]; rfl⟩
  · refine .inl ⟨okByte_false b h, ?_⟩
    have h45 := hn b.toNat (by omega)
    by_cases h1 : (b.toNat : Int) < 45
    · exact .inl ⟨h1, h45⟩
    · by_cases h2 : (b.toNat : Int) ≤ 47
      · exact .inr (.inl ⟨by omega, h2, h45⟩)
      · by_cases h3 : (b.toNat : Int) ≤ 96
        · exact .inr (.inr (.inl ⟨by omega, h3, h45⟩))
        · exact .inr (.inr (.inr ⟨by omega, h45⟩))
theorem take_all (s : ByteArray) (k : Nat) (h : k < s.size) (ha : (s.data.toList.take k).all okByte = true) (hb : okByte s[k] = true) : (s.data.toList.take (k + 1)).all okByte = true := by
  rw [List.take_add_one, byte_get s k h, List.all_append, ha]; simp [hb]
theorem name_long (s : ByteArray) (h : ¬ (1 ≤ s.size ∧ s.size ≤ 16)) : isName s.data.toList = false := by
  have e : s.data.toList.length = s.size := by simp
  unfold isName; rw [e]; simp; omega

/-- the first place of a string in a list, or -1 -/
def place : List (List UInt8) → List UInt8 → Int
  | [], _ => -1
  | x :: l, s => if x = s then 0 else if place l s < 0 then -1 else place l s + 1

theorem place_none {l : List (List UInt8)} {s : List UInt8} (h : s ∉ l) : place l s = -1 := by
  induction l with
  | nil => rfl
  | cons x l ih =>
    simp only [List.mem_cons, not_or] at h
    rw [place, if_neg (fun e => h.1 e.symm), ih h.2]; simp
theorem place_found {l : List (List UInt8)} {s : List UInt8} {k : Nat} (h : l[k]? = some s) (hn : s ∉ l.take k) : place l s = k := by
  induction l generalizing k with
  | nil => simp at h
  | cons x l ih =>
    cases k with
    | zero => simp at h; simp [place, h]
    | succ k =>
      simp only [List.take_succ_cons, List.mem_cons, not_or] at hn
      have := ih (k := k) (by simpa using h) hn.2
      rw [place, if_neg (fun e => hn.1 e.symm), this, if_neg (by omega)]
      omega
theorem place_neg (l : List (List UInt8)) (s : List UInt8) : place l s < 0 ↔ s ∉ l := by
  constructor
  · intro h hm
    obtain ⟨k, hk⟩ := List.getElem?_of_mem hm
    induction l generalizing k with
    | nil => simp at hm
    | cons x l ih =>
      rw [place] at h
      split at h
      · omega
      · rename_i hne
        split at h
        · rename_i h2
          have hm' : s ∈ l := by
            rcases List.mem_cons.1 hm with e | e
            · exact absurd e.symm hne
            · exact e
          obtain ⟨k', hk'⟩ := List.getElem?_of_mem hm'
          exact ih h2 hm' k' hk'
        · omega
  · intro h; rw [place_none h]; omega

/-- P1: the error of a fresh name -/
def fresh (s : List UInt8) (l : List (List UInt8)) : Int := if isName s then (if s ∈ l then 5 else 0) else 6

structure Span where
  lo : Int
  hi : Int
  deriving DecidableEq

def inB (n lo hi : Int) : Bool := decide (lo ≤ n) && decide (n ≤ hi)

/-- the error of some spans -/
def spreadGo (lo hi : Int) : List Span → Int → Int
  | [], e => e
  | s :: l, e => if !inB s.lo lo hi || !inB s.hi lo hi then 7 else spreadGo lo hi l (if s.lo > s.hi then 2 else e)
def spread (l : List Span) (lo hi : Int) : Int := spreadGo lo hi l 0
def rangeE (s : Span) (lo hi : Int) : Int := if !inB s.lo lo hi || !inB s.hi lo hi then 7 else if s.lo > s.hi then 2 else 0

end Go.Proofs.YtkbpmcpmcmnfgaaDoor

namespace Go.Proofs.YtkbpmcpmcmnfgaaDoor

structure Feat where
  name : List UInt8
  nom : Int
  err : Int
structure Cause where
  name : List UInt8
  lo : Int
  hi : Int
  per : List Int
structure Meas where
  feature : Int
  shown : Int
structure Claim where
  feats : List Feat
  causes : List Cause
  meas : List Meas

/-- the first number below n of which f is not 0 -/
def firstErr (f : Nat → Int) : Nat → Option (Nat × Int)
  | 0 => none
  | n + 1 => match firstErr f n with
    | some r => some r
    | none => if f n = 0 then none else some (n, f n)

theorem firstErr_none {f : Nat → Int} {n : Nat} (h : ∀ k, k < n → f k = 0) : firstErr f n = none := by
  induction n with
  | zero => rfl
  | succ n ih => simp [firstErr, ih (fun k hk => h k (by omega)), h n (by omega)]
theorem firstErr_some {f : Nat → Int} {n k : Nat} (hk : k < n) (h : ∀ j, j < k → f j = 0) (he : f k ≠ 0) : firstErr f n = some (k, f k) := by
  induction n with
  | zero => omega
  | succ n ih =>
    by_cases hkn : k = n
    · subst hkn
      simp [firstErr, firstErr_none h, he]
    · simp [firstErr, ih (by omega)]
theorem firstErr_cases (f : Nat → Int) (n : Nat) : (firstErr f n = none ∧ ∀ k, k < n → f k = 0) ∨ ∃ k, k < n ∧ firstErr f n = some (k, f k) ∧ f k ≠ 0 ∧ ∀ j, j < k → f j = 0 := by
  induction n with
  | zero => exact .inl ⟨rfl, fun k h => by omega⟩
  | succ n ih =>
    rcases ih with ⟨h, ha⟩ | ⟨k, hk, h, he, hj⟩
    · by_cases he : f n = 0
      · exact .inl ⟨by simp [firstErr, h, he], fun k hk => by rcases Nat.lt_or_eq_of_le (Nat.le_of_lt_succ hk) with h1 | h1; exact ha k h1; rw [h1]; exact he⟩
      · exact .inr ⟨n, by omega, by simp [firstErr, h, he], he, ha⟩
    · exact .inr ⟨k, by omega, by simp [firstErr, h], he, hj⟩
theorem firstErr_ne {f : Nat → Int} {n k : Nat} {e : Int} (h : firstErr f n = some (k, e)) : e ≠ 0 := by
  rcases firstErr_cases f n with ⟨h1, _⟩ | ⟨k', _, h1, h2, _⟩
  · rw [h1] at h; cases h
  · rw [h1] at h; cases h; exact h2

def dFeat : Feat := ⟨[], 0, 0⟩
def dCause : Cause := ⟨[], 0, 0, []⟩
def dMeas : Meas := ⟨0, 0⟩

def featE (l : List Feat) (k : Nat) : Int :=
  let x := l.getD k dFeat
  let e := fresh x.name ((l.take k).map (·.name))
  if e ≠ 0 then e else if !inB x.nom 1 100000 || !inB x.err 0 100 then 7 else 0
def perBad (l : List Int) : Bool := l.any fun n => !inB n (-20) 20
def causeE (nf : Nat) (x : Cause) : Int :=
  if x.per.length ≠ nf then 3 else
  let e := if perBad x.per then 7 else rangeE ⟨x.lo, x.hi⟩ 1 50
  if e = 0 ∧ x.hi - x.lo > 6 then 2 else e
def causeAt (nf : Nat) (l : List Cause) (k : Nat) : Int :=
  let x := l.getD k dCause
  let e := fresh x.name ((l.take k).map (·.name))
  if e ≠ 0 then e else causeE nf x
def measE (nf : Nat) (l : List Meas) (k : Nat) : Int :=
  let x := l.getD k dMeas
  if !inB x.feature 0 ((nf : Int) - 1) then 4 else if !inB x.shown 0 200000 then 7 else 0

/-- P12.1 -/
def check (c : Claim) : Int × Int × Int :=
  if ¬ (1 ≤ c.feats.length ∧ c.feats.length ≤ 5) then (1, 0, 3) else
  match firstErr (featE c.feats) c.feats.length with
  | some (k, e) => (1, k, e)
  | none =>
    if 5 < c.causes.length then (2, 0, 3) else
    match firstErr (causeAt c.feats.length c.causes) c.causes.length with
    | some (k, e) => (2, k, e)
    | none =>
      if 8 < c.meas.length then (3, 0, 3) else
      match firstErr (measE c.feats.length c.meas) c.meas.length with
      | some (k, e) => (3, k, e)
      | none => (0, 0, 0)

section
variable {c : Claim}
theorem check_feat {k : Nat} {e : Int} (h : 1 ≤ c.feats.length ∧ c.feats.length ≤ 5) (hk : k < c.feats.length) (hz : ∀ j, j < k → featE c.feats j = 0) (he : e ≠ 0) (hf : featE c.feats k = e) : check c = (1, (k : Int), e) := by
  rw [check, if_neg (not_not_intro h), firstErr_some hk hz (by rw [hf]; exact he), hf]
theorem check_many (h : 1 ≤ c.feats.length ∧ c.feats.length ≤ 5) (hz : ∀ j, j < c.feats.length → featE c.feats j = 0) (h5 : 5 < c.causes.length) : check c = (2, 0, 3) := by
  rw [check, if_neg (not_not_intro h), firstErr_none hz]; simp only; rw [if_pos h5]
theorem check_cause {k : Nat} {e : Int} (h : 1 ≤ c.feats.length ∧ c.feats.length ≤ 5) (hz : ∀ j, j < c.feats.length → featE c.feats j = 0) (h5 : ¬ 5 < c.causes.length)
    (hk : k < c.causes.length) (hz2 : ∀ j, j < k → causeAt c.feats.length c.causes j = 0) (he : e ≠ 0) (hf : causeAt c.feats.length c.causes k = e) : check c = (2, (k : Int), e) := by
  rw [check, if_neg (not_not_intro h), firstErr_none hz]; simp only; rw [if_neg h5, firstErr_some hk hz2 (by rw [hf]; exact he), hf]
theorem check_manym (h : 1 ≤ c.feats.length ∧ c.feats.length ≤ 5) (hz : ∀ j, j < c.feats.length → featE c.feats j = 0) (h5 : ¬ 5 < c.causes.length)
    (hz2 : ∀ j, j < c.causes.length → causeAt c.feats.length c.causes j = 0) (h8 : 8 < c.meas.length) : check c = (3, 0, 3) := by
  rw [check, if_neg (not_not_intro h), firstErr_none hz]; simp only; rw [if_neg h5, firstErr_none hz2]; simp only; rw [if_pos h8]
theorem check_meas {k : Nat} {e : Int} (h : 1 ≤ c.feats.length ∧ c.feats.length ≤ 5) (hz : ∀ j, j < c.feats.length → featE c.feats j = 0) (h5 : ¬ 5 < c.causes.length)
    (hz2 : ∀ j, j < c.causes.length → causeAt c.feats.length c.causes j = 0) (h8 : ¬ 8 < c.meas.length) (hk : k < c.meas.length) (hz3 : ∀ j, j < k → measE c.feats.length c.meas j = 0) (he : e ≠ 0) (hf : measE c.feats.length c.meas k = e) : check c = (3, (k : Int), e) := by
  rw [check, if_neg (not_not_intro h), firstErr_none hz]; simp only; rw [if_neg h5, firstErr_none hz2]; simp only; rw [if_neg h8, firstErr_some hk hz3 (by rw [hf]; exact he), hf]
theorem check_ok (h : 1 ≤ c.feats.length ∧ c.feats.length ≤ 5) (hz : ∀ j, j < c.feats.length → featE c.feats j = 0) (h5 : ¬ 5 < c.causes.length)
    (hz2 : ∀ j, j < c.causes.length → causeAt c.feats.length c.causes j = 0) (h8 : ¬ 8 < c.meas.length) (hz3 : ∀ j, j < c.meas.length → measE c.feats.length c.meas j = 0) : check c = (0, 0, 0) := by
  rw [check, if_neg (not_not_intro h), firstErr_none hz]; simp only; rw [if_neg h5, firstErr_none hz2]; simp only; rw [if_neg h8, firstErr_none hz3]
theorem check_n (h : ¬ (1 ≤ c.feats.length ∧ c.feats.length ≤ 5)) : check c = (1, 0, 3) := by rw [check, if_pos h]
end
theorem featE_get {l : List Feat} {k : Nat} {x : Feat} (h : l[k]? = some x) : featE l k = (if fresh x.name ((l.take k).map (·.name)) ≠ 0 then fresh x.name ((l.take k).map (·.name)) else if !inB x.nom 1 100000 || !inB x.err 0 100 then 7 else 0) := by
  unfold featE; rw [List.getD_eq_getElem?_getD, h]; rfl
theorem causeAt_get {l : List Cause} {k nf : Nat} {x : Cause} (h : l[k]? = some x) : causeAt nf l k = (if fresh x.name ((l.take k).map (·.name)) ≠ 0 then fresh x.name ((l.take k).map (·.name)) else causeE nf x) := by
  unfold causeAt; rw [List.getD_eq_getElem?_getD, h]; rfl
theorem measE_get {l : List Meas} {k nf : Nat} {x : Meas} (h : l[k]? = some x) : measE nf l k = (if !inB x.feature 0 ((nf : Int) - 1) then 4 else if !inB x.shown 0 200000 then 7 else 0) := by
  unfold measE; rw [List.getD_eq_getElem?_getD, h]; rfl
theorem upto_succ {f : Nat → Int} {k : Nat} (h : ∀ j, j < k → f j = 0) (hk : f k = 0) : ∀ j, j < k + 1 → f j = 0 := by
  intro j hj
  rcases Nat.lt_or_eq_of_le (Nat.le_of_lt_succ hj) with h1 | h1
  · exact h j h1
  · rw [h1]; exact hk

end Go.Proofs.YtkbpmcpmcmnfgaaDoor

namespace Go.Proofs.YtkbpmcpmcmnfgaaDoor

structure OkC (c : Claim) : Prop where
  nf : 1 ≤ c.feats.length ∧ c.feats.length ≤ 5
  nc : c.causes.length ≤ 5
  nm : c.meas.length ≤ 8
  feat : ∀ {k : Nat} {x : Feat}, c.feats[k]? = some x → 1 ≤ x.nom ∧ x.nom ≤ 100000 ∧ 0 ≤ x.err ∧ x.err ≤ 100
  cause : ∀ {k : Nat} {x : Cause}, c.causes[k]? = some x → x.per.length = c.feats.length ∧ (∀ v ∈ x.per, -20 ≤ v ∧ v ≤ 20) ∧ 1 ≤ x.lo ∧ x.lo ≤ x.hi ∧ x.hi ≤ 50 ∧ x.hi - x.lo ≤ 6
  meas : ∀ {k : Nat} {x : Meas}, c.meas[k]? = some x → 0 ≤ x.feature ∧ x.feature < c.feats.length ∧ 0 ≤ x.shown ∧ x.shown ≤ 200000

theorem inB_iff {n lo hi : Int} : inB n lo hi = true ↔ lo ≤ n ∧ n ≤ hi := by simp [inB]

/-- the error is OK just if .. -/
theorem check_zero {c : Claim} (h : (check c).2.2 = 0) : (1 ≤ c.feats.length ∧ c.feats.length ≤ 5) ∧ (∀ j, j < c.feats.length → featE c.feats j = 0) ∧ ¬ 5 < c.causes.length ∧
    (∀ j, j < c.causes.length → causeAt c.feats.length c.causes j = 0) ∧ ¬ 8 < c.meas.length ∧ (∀ j, j < c.meas.length → measE c.feats.length c.meas j = 0) := by
  by_cases h1 : 1 ≤ c.feats.length ∧ c.feats.length ≤ 5
  · rcases firstErr_cases (featE c.feats) c.feats.length with ⟨_, h2⟩ | ⟨k, hk, _, he, hj⟩
    · by_cases h3 : 5 < c.causes.length
      · rw [check_many h1 h2 h3] at h; cases h
      · rcases firstErr_cases (causeAt c.feats.length c.causes) c.causes.length with ⟨_, h4⟩ | ⟨k, hk, _, he, hj⟩
        · by_cases h5 : 8 < c.meas.length
          · rw [check_manym h1 h2 h3 h4 h5] at h; cases h
          · rcases firstErr_cases (measE c.feats.length c.meas) c.meas.length with ⟨_, h6⟩ | ⟨k, hk, _, he, hj⟩
            · exact ⟨h1, h2, h3, h4, h5, h6⟩
            · rw [check_meas h1 h2 h3 h4 h5 hk hj he rfl] at h; exact absurd h he
        · rw [check_cause h1 h2 h3 hk hj he rfl] at h; exact absurd h he
    · rw [check_feat h1 hk hj he rfl] at h; exact absurd h he
  · rw [check_n h1] at h; cases h

theorem okC_of {c : Claim} (h : (check c).2.2 = 0) : OkC c := by
  obtain ⟨h1, h2, h3, h4, h5, h6⟩ := check_zero h
  refine ⟨h1, by omega, by omega, ?_, ?_, ?_⟩
  · intro k x hx
    have hk : k < c.feats.length := by obtain ⟨h, _⟩ := List.getElem?_eq_some_iff.1 hx; exact h
    have := h2 k hk
    rw [featE_get hx] at this
    split at this
    · rename_i h; exact absurd this h
    · split at this
      · cases this
      · rename_i h; simp [inB] at h; omega
  · intro k x hx
    have hk : k < c.causes.length := by obtain ⟨h, _⟩ := List.getElem?_eq_some_iff.1 hx; exact h
    have := h4 k hk
    rw [causeAt_get hx] at this
    split at this
    · rename_i h; exact absurd this h
    · unfold causeE at this
      split at this
      · cases this
      · rename_i hl
        have hl : x.per.length = c.feats.length := Classical.byContradiction hl
        by_cases hp : perBad x.per = true
        · rw [hp] at this; simp at this
        · rw [if_neg hp] at this
          have hpv : ∀ v ∈ x.per, -20 ≤ v ∧ v ≤ 20 := by
            intro v hv
            have h' : inB v (-20) 20 = true := by
              cases h : inB v (-20) 20
              · exfalso; apply hp; unfold perBad; rw [List.any_eq_true]; exact ⟨v, hv, by simp [h]⟩
              · rfl
            exact inB_iff.1 h'
          unfold rangeE at this
          simp only at this
          by_cases hb : (!inB x.lo 1 50 || !inB x.hi 1 50) = true
          · rw [if_pos hb] at this; simp at this
          · rw [if_neg hb] at this
            simp [inB] at hb
            by_cases hg : x.lo > x.hi
            · rw [if_pos hg] at this; simp at this
            · rw [if_neg hg] at this
              by_cases h6 : x.hi - x.lo > 6
              · rw [if_pos ⟨rfl, h6⟩] at this; cases this
              · exact ⟨hl, hpv, by omega, by omega, by omega, by omega⟩
  · intro k x hx
    have hk : k < c.meas.length := by obtain ⟨h, _⟩ := List.getElem?_eq_some_iff.1 hx; exact h
    have := h6 k hk
    rw [measE_get hx] at this
    split at this
    · cases this
    · rename_i h
      split at this
      · cases this
      · rename_i h'; simp [inB] at h h'; omega

/-- the numbers that there can be of a cause -/
def vals (x : Cause) : List Int := 0 :: (List.range (x.hi - x.lo + 1).toNat).map (fun i : Nat => x.lo + i)
def allGo : List (List Int) → List Cause → List (List Int)
  | out, [] => out
  | out, x :: l => allGo (out.flatMap fun t => (vals x).map fun v => t ++ [v]) l
/-- all truths, in order -/
def allT (l : List Cause) : List (List Int) := allGo [[]] l

def perOf (c : Claim) (f i : Nat) : Int := (c.causes.getD i dCause).per.getD f 0
def lenUpto (c : Claim) (t : List Int) (f : Nat) : Nat → Int
  | 0 => (c.feats.getD f dFeat).nom
  | k + 1 => lenUpto c t f k + t.getD k 0 * perOf c f k
/-- the length of a feature in a truth -/
def len (c : Claim) (t : List Int) (f : Nat) : Int := lenUpto c t f t.length

def TruthOk (c : Claim) (t : List Int) : Prop := t.length ≤ c.causes.length ∧ ∀ v ∈ t, 0 ≤ v ∧ v ≤ 50

theorem getD_of {α : Type} {l : List α} {k : Nat} {x d : α} (h : l[k]? = some x) : l.getD k d = x := by rw [List.getD_eq_getElem?_getD, h]; rfl

theorem mul_bd {a b : Int} (h1 : 0 ≤ a) (h2 : a ≤ 50) (h3 : -20 ≤ b) (h4 : b ≤ 20) : -1000 ≤ a * b ∧ a * b ≤ 1000 := by
  constructor
  · have := Int.mul_le_mul_of_nonneg_left h3 h1
    omega
  · have := Int.mul_le_mul_of_nonneg_left h4 h1
    omega

theorem term_bd {c : Claim} (h : OkC c) {t : List Int} (ht : TruthOk c t) {f : Nat} (hf : f < c.feats.length) {k : Nat} (hk : k < t.length) : -1000 ≤ t.getD k 0 * perOf c f k ∧ t.getD k 0 * perOf c f k ≤ 1000 := by
  have hx := List.getElem?_eq_getElem hk
  rw [getD_of hx]
  have h1 := ht.2 t[k] (List.getElem_mem hk)
  have hkc : k < c.causes.length := Nat.lt_of_lt_of_le hk ht.1
  have hy := List.getElem?_eq_getElem hkc
  obtain ⟨hl, hp, _⟩ := h.cause hy
  have hfl : f < (c.causes[k]).per.length := by rw [hl]; exact hf
  have h2 : perOf c f k = (c.causes[k]).per[f] := by unfold perOf; rw [getD_of hy, getD_of (List.getElem?_eq_getElem hfl)]
  rw [h2]
  have h3 := hp _ (List.getElem_mem hfl)
  exact mul_bd h1.1 h1.2 h3.1 h3.2

theorem lenUpto_bd {c : Claim} (h : OkC c) {t : List Int} (ht : TruthOk c t) {f : Nat} (hf : f < c.feats.length) {k : Nat} (hk : k ≤ t.length) : 1 - 1000 * k ≤ lenUpto c t f k ∧ lenUpto c t f k ≤ 100000 + 1000 * k := by
  induction k with
  | zero =>
    have hx := List.getElem?_eq_getElem hf
    have := h.feat hx
    rw [lenUpto, getD_of hx]; omega
  | succ k ih =>
    have h1 := ih (by omega)
    have h2 := term_bd h ht hf (k := k) (by omega)
    rw [lenUpto]; omega

theorem len_bd {c : Claim} (h : OkC c) {t : List Int} (ht : TruthOk c t) {f : Nat} (hf : f < c.feats.length) : -5000 ≤ len c t f ∧ len c t f ≤ 105000 := by
  have h1 := lenUpto_bd h ht hf (Nat.le_refl _)
  have := ht.1
  have := h.nc
  unfold len; omega

/-- is a measure true in a truth? -/
def measOk (c : Claim) (t : List Int) (x : Meas) : Bool :=
  inB x.shown (len c t x.feature.toNat - (c.feats.getD x.feature.toNat dFeat).err) (len c t x.feature.toNat + (c.feats.getD x.feature.toNat dFeat).err)
/-- the measures that are not true in a truth -/
def untrueL (c : Claim) (t : List Int) : List Int := ((List.range c.meas.length).filter fun i => !measOk c t (c.meas.getD i dMeas)).map fun i : Nat => (i : Int)
def agreeL (c : Claim) : List (List Int) := (allT c.causes).filter fun t => (untrueL c t).isEmpty
/-- the set of a truth -/
def setL (t : List Int) : List Int := ((List.range t.length).filter fun i => decide (0 < t.getD i 0)).map fun i : Nat => (i : Int)

def lexLt : List Int → List Int → Bool
  | x :: a, y :: b => if x = y then lexLt a b else decide (x < y)
  | _, _ => false
def lessL (a b : List Int) : Bool := if a.length ≠ b.length then decide (a.length < b.length) else lexLt a b
def partL (a b : List Int) : Bool := a.all fun x => decide (x ∈ b)

theorem range_filter_succ {p : Nat → Bool} {k : Nat} : ((List.range (k + 1)).filter p).map (fun i : Nat => (i : Int)) = ((List.range k).filter p).map (fun i : Nat => (i : Int)) ++ (if p k then [(k : Int)] else []) := by
  rw [List.range_succ, List.filter_append, List.map_append]
  by_cases h : p k <;> simp [h]
theorem allGo_snoc (out : List (List Int)) (l : List Cause) (x : Cause) : allGo out (l ++ [x]) = (allGo out l).flatMap fun t => (vals x).map fun v => t ++ [v] := by
  induction l generalizing out with
  | nil => rfl
  | cons y l ih => simp only [List.cons_append, allGo]; exact ih _
def partT (t : List Int) (x : Cause) (p : Nat) : List (List Int) := (t ++ [0]) :: (List.range p).map fun i : Nat => t ++ [x.lo + i]
theorem partT_succ (t : List Int) (x : Cause) (p : Nat) : partT t x (p + 1) = partT t x p ++ [t ++ [x.lo + p]] := by
  unfold partT; rw [List.range_succ, List.map_append]; rfl
theorem partT_all (t : List Int) (x : Cause) : partT t x (x.hi - x.lo + 1).toNat = (vals x).map fun v => t ++ [v] := by
  unfold partT vals; rw [List.map_cons, List.map_map]; rfl
theorem partT_len (t : List Int) (x : Cause) (p : Nat) : (partT t x p).length = p + 1 := by unfold partT; simp
theorem flatMap_take_succ {α β : Type} {l : List α} {k : Nat} {x : α} (h : l[k]? = some x) (f : α → List β) : (l.take (k + 1)).flatMap f = (l.take k).flatMap f ++ f x := by
  rw [List.take_add_one, h, List.flatMap_append]; simp
theorem vals_len {x : Cause} (h : x.lo ≤ x.hi) (h6 : x.hi - x.lo ≤ 6) : 2 ≤ (vals x).length ∧ (vals x).length ≤ 8 := by
  unfold vals; simp; omega

/-- a truth of a claim -/
theorem allT_mem {l : List Cause} (hl : ∀ x ∈ l, 1 ≤ x.lo ∧ x.lo ≤ x.hi ∧ x.hi ≤ 50) {t : List Int} (h : t ∈ allT l) : t.length = l.length ∧ ∀ v ∈ t, 0 ≤ v ∧ v ≤ 50 := by
  unfold allT at h
  have key : ∀ (l : List Cause) (out : List (List Int)) (n : Nat), (∀ x ∈ l, 1 ≤ x.lo ∧ x.lo ≤ x.hi ∧ x.hi ≤ 50) → (∀ t ∈ out, t.length = n ∧ ∀ v ∈ t, 0 ≤ v ∧ v ≤ 50) → ∀ t ∈ allGo out l, t.length = n + l.length ∧ ∀ v ∈ t, 0 ≤ v ∧ v ≤ 50 := by
    intro l
    induction l with
    | nil => intro out n _ ho t ht; exact ho t ht
    | cons x l ih =>
      intro out n hl ho t ht
      have hx := hl x (List.mem_cons_self)
      have := ih (out.flatMap fun t => (vals x).map fun v => t ++ [v]) (n + 1) (fun y hy => hl y (List.mem_cons_of_mem _ hy)) (by
        intro t' ht'
        rw [List.mem_flatMap] at ht'
        obtain ⟨t0, ht0, ht'⟩ := ht'
        rw [List.mem_map] at ht'
        obtain ⟨v, hv, rfl⟩ := ht'
        obtain ⟨h1, h2⟩ := ho t0 ht0
        refine ⟨by simp [h1], fun u hu => ?_⟩
        rw [List.mem_append, List.mem_singleton] at hu
        rcases hu with hu | rfl
        · exact h2 u hu
        · unfold vals at hv
          rw [List.mem_cons, List.mem_map] at hv
          rcases hv with rfl | ⟨i, hi, rfl⟩
          · omega
          · rw [List.mem_range] at hi; omega) t ht
      rw [List.length_cons]; exact ⟨by omega, this.2⟩
  have := key l [[]] 0 hl (by intro t ht; simp at ht; subst ht; simp) t h
  exact ⟨by omega, this.2⟩
theorem allT_ok {c : Claim} (h : OkC c) {t : List Int} (ht : t ∈ allT c.causes) : t.length = c.causes.length ∧ TruthOk c t := by
  have := allT_mem (l := c.causes) (fun x hx => by obtain ⟨k, hk⟩ := List.getElem?_of_mem hx; have := h.cause hk; omega) ht
  exact ⟨this.1, by rw [this.1]; exact Nat.le_refl _, this.2⟩
theorem allGo_len {l : List Cause} (hl : ∀ x ∈ l, x.lo ≤ x.hi ∧ x.hi - x.lo ≤ 6) (out : List (List Int)) : (allGo out l).length ≤ out.length * 8 ^ l.length ∧ out.length ≤ (allGo out l).length := by
  induction l generalizing out with
  | nil => simp [allGo]
  | cons x l ih =>
    have hx := hl x (List.mem_cons_self)
    have hv := vals_len hx.1 hx.2
    have h1 : (out.flatMap fun t => (vals x).map fun v => t ++ [v]).length = out.length * (vals x).length := by
      clear ih hl
      induction out with
      | nil => simp
      | cons t out ih => rw [List.flatMap_cons, List.length_append, ih, List.length_map, List.length_cons, Nat.succ_mul]; omega
    have := ih (fun y hy => hl y (List.mem_cons_of_mem _ hy)) (out.flatMap fun t => (vals x).map fun v => t ++ [v])
    rw [h1] at this
    rw [allGo, List.length_cons, Nat.pow_succ]
    constructor
    · refine Nat.le_trans this.1 ?_
      rw [Nat.mul_comm (8 ^ l.length) 8, ← Nat.mul_assoc]
      exact Nat.mul_le_mul_right _ (Nat.mul_le_mul_left _ hv.2)
    · refine Nat.le_trans ?_ this.2
      exact Nat.le_mul_of_pos_right _ (by omega)
theorem allTake_len {c : Claim} (h : OkC c) (k : Nat) : (allGo [[]] (c.causes.take k)).length ≤ 32768 := by
  have h1 := allGo_len (l := c.causes.take k) (fun x hx => by obtain ⟨k, hk⟩ := List.getElem?_of_mem (List.mem_of_mem_take hx); have := h.cause hk; omega) [[]]
  have h2 : 8 ^ (c.causes.take k).length ≤ 8 ^ 5 := Nat.pow_le_pow_right (by decide) (by rw [List.length_take]; have := h.nc; omega)
  simp only [List.length_cons, List.length_nil] at h1
  omega
theorem allTake_short {c : Claim} (h : OkC c) (k : Nat) {u : List Int} (hu : u ∈ allGo [[]] (c.causes.take k)) : u.length ≤ 5 := by
  have := allT_mem (l := c.causes.take k) (fun x hx => by obtain ⟨k, hk⟩ := List.getElem?_of_mem (List.mem_of_mem_take hx); have := h.cause hk; omega) hu
  rw [this.1, List.length_take]; have := h.nc; omega
theorem flatMap_len {out : List (List Int)} {x : Cause} (h : (vals x).length ≤ 8) : (out.flatMap fun t => (vals x).map fun v => t ++ [v]).length ≤ out.length * 8 := by
  induction out with
  | nil => simp
  | cons t out ih => rw [List.flatMap_cons, List.length_append, List.length_map, List.length_cons, Nat.succ_mul]; omega
theorem allT_len {c : Claim} (h : OkC c) : (allT c.causes).length ≤ 32768 ∧ 1 ≤ (allT c.causes).length := by
  have h1 := allGo_len (l := c.causes) (fun x hx => by obtain ⟨k, hk⟩ := List.getElem?_of_mem hx; have := h.cause hk; omega) [[]]
  have h2 : 8 ^ c.causes.length ≤ 8 ^ 5 := Nat.pow_le_pow_right (by decide) h.nc
  simp only [List.length_cons, List.length_nil] at h1
  unfold allT
  omega
/-- all lists of m numbers below a number, from one on, ascending, in order -/
def listsL (below : Nat) : Nat → Nat → List (List Int)
  | 0, _ => [[]]
  | m + 1, n => (List.range (below - n)).flatMap fun i => (listsL below m (n + i + 1)).map fun r => ((n + i : Nat) : Int) :: r
theorem listsL_small : ∀ below, below < 6 → ∀ m, m < 6 → ∀ n, n < 7 → (listsL below m n).length ≤ 32 ∧ ∀ u ∈ listsL below m n, u.length ≤ 5 := by decide +kernel
/-- is a list the set of a truth that agrees? -/
def isSet (l : List (List Int)) (s : List Int) : Bool := l.any fun t => decide (setL t = s)
/-- all sets that explain a claim, in order -/
def explainsL (c : Claim) : List (List Int) := (List.range (c.causes.length + 1)).flatMap fun many => (listsL c.causes.length many 0).filter (isSet (agreeL c))
theorem isSet_snoc (l : List (List Int)) (t s : List Int) : isSet (l ++ [t]) s = (isSet l s || decide (setL t = s)) := by simp [isSet]
theorem isSet_take {l : List (List Int)} {s : List Int} {k : Nat} (h : isSet (l.take k) s = true) : isSet l s = true := by
  unfold isSet at h ⊢
  rw [List.any_eq_true] at h ⊢
  obtain ⟨x, hx, hp⟩ := h
  exact ⟨x, List.mem_of_mem_take hx, hp⟩
end Go.Proofs.YtkbpmcpmcmnfgaaDoor

namespace Go.Proofs.YtkbpmcpmcmnfgaaDoor

def err (c : Claim) : Int := (check c).2.2
def smallerIn (all : List (List Int)) (s : List Int) : Bool := all.any fun u => decide (u.length < s.length) && partL u s
def setsL (c : Claim) : List (List Int) := (explainsL c).filter fun s => !smallerIn (explainsL c) s
def setsR (c : Claim) : List (List Int) × Int := if err c ≠ 0 then ([], err c) else (setsL c, 0)

def isMust (l : List (List Int)) (i : Nat) : Bool := l.all fun t => decide (0 < t.getD i 0)
def isMay (l : List (List Int)) (i : Nat) : Bool := l.any fun t => decide (0 < t.getD i 0)
def mustL (c : Claim) : List Int := ((List.range c.causes.length).filter (isMust (agreeL c))).map fun i : Nat => (i : Int)
def mayL (c : Claim) : List Int := ((List.range c.causes.length).filter (isMay (agreeL c))).map fun i : Nat => (i : Int)
/-- the error of the functions that want a truth that agrees -/
def err8 (c : Claim) : Int := if err c ≠ 0 then err c else if agreeL c = [] then 8 else 0
def mustR (c : Claim) : List Int × List Int × Int := if err8 c ≠ 0 then ([], [], err8 c) else (mustL c, mayL c, 0)

/-- the least and the greatest of some numbers, beginning with one -/
def ends (lo hi : Int) : List Int → Int × Int
  | [] => (lo, hi)
  | x :: l => ends (min lo x) (max hi x) l
def endsOf : List Int → Int × Int
  | [] => (0, 0)
  | x :: l => ends x x l
theorem ends_snoc (lo hi : Int) (l : List Int) (x : Int) : ends lo hi (l ++ [x]) = (min (ends lo hi l).1 x, max (ends lo hi l).2 x) := by
  induction l generalizing lo hi with
  | nil => rfl
  | cons y l ih => exact ih _ _
theorem ends_again (x : Int) (l : List Int) : ends x x (x :: l) = ends x x l := by simp [ends]

/-- the error with an index -/
def errAt (c : Claim) (i : Int) (n : Nat) : Int := if err c ≠ 0 then err c else if inB i 0 ((n : Int) - 1) then (if agreeL c = [] then 8 else 0) else 4
def amountR (c : Claim) (i : Int) : (Int × Int) × Int :=
  if errAt c i c.causes.length ≠ 0 then ((0, 0), errAt c i c.causes.length) else (endsOf ((agreeL c).map fun t => t.getD i.toNat 0), 0)
def valueR (c : Claim) (f : Int) : (Int × Int) × Int :=
  if errAt c f c.feats.length ≠ 0 then ((0, 0), errAt c f c.feats.length) else (endsOf ((agreeL c).map fun t => len c t f.toNat), 0)

def better (b u : List Int) : List Int := if lessL (setL u) (setL b) then u else b
def plainOf : List (List Int) → List Int
  | [] => []
  | t :: l => l.foldl better t
def plainR (c : Claim) : List Int × Int := if err8 c ≠ 0 then ([], err8 c) else (plainOf (agreeL c), 0)

def fewer (b u : List Int) : List Int := if lessL u b then u else b
def fewOf : List (List Int) → List Int
  | [] => []
  | t :: l => l.foldl fewer t
def wrongR (c : Claim) : List Int × Int := if err c ≠ 0 then ([], err c) else (fewOf ((allT c.causes).map (untrueL c)), 0)

theorem err8_bad {c : Claim} (h : err c ≠ 0) : err8 c = err c := by rw [err8, if_pos h]
theorem err8_none {c : Claim} (h : err c = 0) (ha : agreeL c = []) : err8 c = 8 := by rw [err8, if_neg (by simp [h]), if_pos ha]
theorem err8_ok {c : Claim} (h : err c = 0) (ha : agreeL c ≠ []) : err8 c = 0 := by rw [err8, if_neg (by simp [h]), if_neg ha]

theorem explains_len {c : Claim} (h : OkC c) : (explainsL c).length ≤ 192 := by
  unfold explainsL
  have key : ∀ k, k ≤ 6 → ((List.range k).flatMap fun many => (listsL c.causes.length many 0).filter (isSet (agreeL c))).length ≤ k * 32 := by
    intro k
    induction k with
    | zero => intro _; simp
    | succ k ih =>
      intro hk
      have h1 := ih (by omega)
      have h2 := List.length_filter_le (isSet (agreeL c)) (listsL c.causes.length k 0)
      have h3 := (listsL_small c.causes.length (by have := h.nc; omega) k (by omega) 0 (by omega)).1
      rw [List.range_succ, List.flatMap_append, List.length_append]
      simp only [List.flatMap_cons, List.flatMap_nil, List.append_nil]
      omega
  have := key (c.causes.length + 1) (by have := h.nc; omega)
  have := h.nc
  omega

/-- three ways -/
theorem ways (c : Claim) : err c ≠ 0 ∨ (err c = 0 ∧ agreeL c = []) ∨ (err c = 0 ∧ agreeL c ≠ []) := by
  by_cases h : err c = 0
  · by_cases ha : agreeL c = []
    · exact .inr (.inl ⟨h, ha⟩)
    · exact .inr (.inr ⟨h, ha⟩)
  · exact .inl h

end Go.Proofs.YtkbpmcpmcmnfgaaDoor

namespace Go.Proofs.YtkbpmcpmcmnfgaaDoor

/-- all truths of some causes, in order -/
def exts : List Cause → List (List Int)
  | [] => [[]]
  | x :: l => (vals x).flatMap fun v => (exts l).map (v :: ·)

theorem allGo_exts (l : List Cause) : ∀ out : List (List Int), allGo out l = out.flatMap fun t => (exts l).map (t ++ ·) := by
  induction l with
  | nil => intro out; simp [allGo, exts]
  | cons x l ih =>
    intro out
    rw [allGo, ih]
    induction out with
    | nil => rfl
    | cons t out ih2 =>
      rw [List.flatMap_cons, List.flatMap_append, ih2, List.flatMap_cons]
      congr 1
      rw [exts, List.map_flatMap, List.flatMap_map]
      congr 1
      funext v
      rw [List.map_map]
      congr 1
      funext u
      simp
theorem allT_exts (l : List Cause) : allT l = exts l := by
  rw [allT, allGo_exts]; simp

theorem flat_get {α β : Type} {f : α → List β} {K : Nat} : ∀ {l : List α}, (∀ x ∈ l, (f x).length = K) → ∀ {n j : Nat} {v : α} {x : β}, l[n]? = some v → (f v)[j]? = some x → (l.flatMap f)[n * K + j]? = some x := by
  intro l
  induction l with
  | nil => intro _ n j v x h; simp at h
  | cons y l ih =>
    intro hK n j v x hv hx
    have hjK : j < K := by
      have h1 : j < (f v).length := by
        obtain ⟨h, _⟩ := List.getElem?_eq_some_iff.1 hx; exact h
      rw [hK v (List.mem_of_getElem? hv)] at h1; exact h1
    rw [List.flatMap_cons]
    cases n with
    | zero =>
      simp at hv; subst hv
      rw [Nat.zero_mul, Nat.zero_add, List.getElem?_append_left (by rw [hK _ List.mem_cons_self]; exact hjK)]
      exact hx
    | succ n =>
      simp at hv
      have hy := hK y List.mem_cons_self
      rw [List.getElem?_append_right (by rw [hy, Nat.succ_mul]; omega)]
      rw [hy, show (n + 1) * K + j - K = n * K + j by rw [Nat.succ_mul]; omega]
      exact ih (fun x hx => hK x (List.mem_cons_of_mem _ hx)) hv hx
theorem flat_len {α β : Type} {f : α → List β} {K : Nat} : ∀ {l : List α}, (∀ x ∈ l, (f x).length = K) → (l.flatMap f).length = l.length * K := by
  intro l
  induction l with
  | nil => intro _; simp
  | cons y l ih => intro h; rw [List.flatMap_cons, List.length_append, h y List.mem_cons_self, ih (fun x hx => h x (List.mem_cons_of_mem _ hx)), List.length_cons, Nat.succ_mul]; omega
theorem exts_get {x : Cause} {l : List Cause} {n j : Nat} {v : Int} {u : List Int} (hv : (vals x)[n]? = some v) (hu : (exts l)[j]? = some u) : (exts (x :: l))[n * (exts l).length + j]? = some (v :: u) := by
  rw [exts]
  exact flat_get (fun y _ => by simp) hv (by rw [List.getElem?_map, hu]; rfl)
theorem exts_len (x : Cause) (l : List Cause) : (exts (x :: l)).length = (vals x).length * (exts l).length := by
  rw [exts]; exact flat_len (fun y _ => by simp)
theorem vals_zero (x : Cause) : (vals x)[0]? = some 0 := rfl
theorem vals_succ {x : Cause} {n : Nat} (h : n < (x.hi - x.lo + 1).toNat) : (vals x)[n + 1]? = some (x.lo + n) := by
  unfold vals
  rw [List.getElem?_cons_succ, List.getElem?_map, List.getElem?_range h]; rfl
theorem vals_length (x : Cause) : (vals x).length = (x.hi - x.lo + 1).toNat + 1 := by unfold vals; simp

/-- a truth, as the program's array of five -/
structure Five (m : Nat) (p ts : List Int) : Prop where
  len : ts.length = 5
  pre : ts.take p.length = p
  rest : ∀ j, m ≤ j → ts.getD j 0 = 0
theorem Five.set {m : Nat} {p ts : List Int} (h : Five m p ts) {i : Nat} (hi : p.length = i) (him : i < m) (hm : m ≤ 5) (v : Int) : Five m (p ++ [v]) (ts.set i v) := by
  have hil : i < ts.length := by rw [h.len]; omega
  refine ⟨by simp [h.len], ?_, fun j hj => ?_⟩
  · rw [List.length_append, List.length_singleton, hi, List.take_add_one, List.getElem?_set_self hil, List.take_set, List.set_eq_of_length_le (by rw [List.length_take]; omega)]
    have := h.pre
    rw [hi] at this
    rw [this]; rfl
  · have hne : i ≠ j := by omega
    rw [List.getD_eq_getElem?_getD, List.getElem?_set_ne hne, ← List.getD_eq_getElem?_getD]
    exact h.rest j hj
theorem Five.less {m : Nat} {p ts : List Int} {v : Int} (h : Five m (p ++ [v]) ts) : Five m p ts := by
  refine ⟨h.len, ?_, h.rest⟩
  have h2 := congrArg (List.take p.length) h.pre
  rw [List.take_take, List.length_append, List.length_singleton, Nat.min_eq_left (Nat.le_succ _), List.take_append_of_le_length (Nat.le_refl _), List.take_of_length_le (Nat.le_refl _)] at h2
  exact h2
theorem Five.getD {m : Nat} {p ts : List Int} (h : Five m p ts) (hp : p.length = m) (j : Nat) : ts.getD j 0 = p.getD j 0 := by
  by_cases hj : j < m
  · have h2 := congrArg (fun l : List Int => l[j]?) h.pre
    rw [List.getElem?_take, if_pos (by omega)] at h2
    rw [List.getD_eq_getElem?_getD, List.getD_eq_getElem?_getD, h2]
  · rw [h.rest j (by omega), List.getD_eq_getElem?_getD, List.getElem?_eq_none (by omega)]; rfl
theorem five_cases {ts : List Int} (h : ts.length = 5) : ∃ a0 a1 a2 a3 a4, ts = [a0, a1, a2, a3, a4] := by
  match ts, h with
  | [a0, a1, a2, a3, a4], _ => exact ⟨a0, a1, a2, a3, a4, rfl⟩
theorem five_take {t : List Int} {m : Nat} (h : t.length = m) (hm : m ≤ 5) : [t.getD 0 0, t.getD 1 0, t.getD 2 0, t.getD 3 0, t.getD 4 0].take m = t := by
  match t, h with
  | [], h => subst h; rfl
  | [a], h => subst h; rfl
  | [a, b], h => subst h; rfl
  | [a, b, c], h => subst h; rfl
  | [a, b, c, d], h => subst h; rfl
  | [a, b, c, d, e], h => subst h; rfl
  | _ :: _ :: _ :: _ :: _ :: _ :: _, h => simp at h; omega

end Go.Proofs.YtkbpmcpmcmnfgaaDoor

namespace Go.Proofs.YtkbpmcpmcmnfgaaDoor

def bitOf (a : Int) (i : Nat) : Nat := if 0 < a then 2 ^ i else 0
def setN (t : List Int) : Nat := bitOf (t.getD 0 0) 0 + bitOf (t.getD 1 0) 1 + bitOf (t.getD 2 0) 2 + bitOf (t.getD 3 0) 3 + bitOf (t.getD 4 0) 4
theorem setB_bit : ∀ b0 b1 b2 b3 b4 : Bool, ∀ i : Fin 5, ((if b0 then 1 else 0) + (if b1 then 2 else 0) + (if b2 then 4 else 0) + (if b3 then 8 else 0) + (if b4 then 16 else 0) : Nat).testBit i = [b0, b1, b2, b3, b4].getD i false := by decide +kernel
theorem setN_bools (t : List Int) : setN t = ((if decide (0 < t.getD 0 0) then 1 else 0) + (if decide (0 < t.getD 1 0) then 2 else 0) + (if decide (0 < t.getD 2 0) then 4 else 0) + (if decide (0 < t.getD 3 0) then 8 else 0) + (if decide (0 < t.getD 4 0) then 16 else 0) : Nat) := by
  unfold setN bitOf; simp
theorem setN_bit (t : List Int) (i : Nat) (hi : i < 5) : (setN t).testBit i = decide (0 < t.getD i 0) := by
  rw [setN_bools, setB_bit _ _ _ _ _ ⟨i, hi⟩]
  match i, hi with
  | 0, _ => rfl
  | 1, _ => rfl
  | 2, _ => rfl
  | 3, _ => rfl
  | 4, _ => rfl
theorem setN_lt (t : List Int) : setN t < 32 := by
  rw [setN_bools]
  repeat' split
  all_goals decide

def listN (s : Nat) : List Int := ((List.range 5).filter fun i => s.testBit i).map fun i : Nat => (i : Int)
def allN (l : List (List Int)) (a : Nat) : Nat := l.foldl (fun a t => a &&& setN t) a
def someN (l : List (List Int)) (a : Nat) : Nat := l.foldl (fun a t => a ||| setN t) a
theorem allN_snoc (l : List (List Int)) (a : Nat) (t : List Int) : allN (l ++ [t]) a = allN l a &&& setN t := by simp [allN]
theorem someN_snoc (l : List (List Int)) (a : Nat) (t : List Int) : someN (l ++ [t]) a = someN l a ||| setN t := by simp [someN]
theorem allN_lt (l : List (List Int)) (a : Nat) (h : a < 32) : allN l a < 32 := by
  induction l generalizing a with
  | nil => exact h
  | cons t l ih => exact ih _ (Nat.lt_of_le_of_lt Nat.and_le_left h)
theorem someN_lt (l : List (List Int)) (a : Nat) (h : a < 32) : someN l a < 32 := by
  induction l generalizing a with
  | nil => exact h
  | cons t l ih => exact ih _ (Nat.or_lt_two_pow (n := 5) h (setN_lt t))
theorem allN_bit (l : List (List Int)) (a i : Nat) : (allN l a).testBit i = (a.testBit i && l.all fun t => (setN t).testBit i) := by
  induction l generalizing a with
  | nil => simp [allN]
  | cons t l ih => rw [allN, List.foldl_cons, ← allN, ih, Nat.testBit_and, List.all_cons, Bool.and_assoc]
theorem someN_bit (l : List (List Int)) (a i : Nat) : (someN l a).testBit i = (a.testBit i || l.any fun t => (setN t).testBit i) := by
  induction l generalizing a with
  | nil => simp [someN]
  | cons t l ih => rw [someN, List.foldl_cons, ← someN, ih, Nat.testBit_or, List.any_cons, Bool.or_assoc]

theorem range5 (P : Nat → Bool) {m : Nat} (hm : m ≤ 5) : (List.range 5).filter (fun i => decide (i < m) && P i) = (List.range m).filter P := by
  rcases m with _ | _ | _ | _ | _ | _ | m
  · rfl
  · simp [List.range, List.range.loop, List.filter]
  · simp [List.range, List.range.loop, List.filter]
  · simp [List.range, List.range.loop, List.filter]
  · simp [List.range, List.range.loop, List.filter]
  · simp [List.range, List.range.loop, List.filter]
  · omega
theorem filter_congr5 {P Q : Nat → Bool} (h : ∀ i, i < 5 → P i = Q i) : (List.range 5).filter P = (List.range 5).filter Q :=
  List.filter_congr fun i hi => h i (List.mem_range.1 hi)
theorem listN_must {c : Claim} (h : OkC c) : listN (allN (agreeL c) (2 ^ c.causes.length - 1)) = mustL c := by
  unfold listN mustL
  congr 1
  rw [← range5 _ h.nc]
  refine filter_congr5 fun i hi => ?_
  rw [allN_bit, Nat.testBit_two_pow_sub_one]
  congr 1
  unfold isMust
  congr 1
  funext t
  exact setN_bit t i hi
theorem listN_may {c : Claim} (h : OkC c) : listN (someN (agreeL c) 0) = mayL c := by
  unfold listN mayL
  congr 1
  rw [← range5 _ h.nc]
  refine filter_congr5 fun i hi => ?_
  rw [someN_bit, Nat.zero_testBit, Bool.false_or]
  by_cases him : i < c.causes.length
  · rw [decide_eq_true him, Bool.true_and]
    unfold isMay
    congr 1
    funext t
    exact setN_bit t i hi
  · rw [decide_eq_false him, Bool.false_and, List.any_eq_false]
    intro t ht
    have hl := (allT_ok h (List.mem_filter.1 ht).1).1
    rw [setN_bit t i hi, List.getD_eq_getElem?_getD, List.getElem?_eq_none (by omega)]
    decide
/-- the set of a truth, as the program lists it -/
theorem listN_set {t : List Int} (h : t.length ≤ 5) : listN (setN t) = setL t := by
  unfold listN setL
  congr 1
  rw [← range5 _ h]
  refine filter_congr5 fun i hi => ?_
  rw [setN_bit t i hi]
  by_cases him : i < t.length
  · rw [decide_eq_true him, Bool.true_and]
  · rw [decide_eq_false him, Bool.false_and, List.getD_eq_getElem?_getD, List.getElem?_eq_none (by omega)]; rfl

end Go.Proofs.YtkbpmcpmcmnfgaaDoor

namespace Go.Proofs.YtkbpmcpmcmnfgaaDoor

def ord5 : List Nat := [0, 1, 2, 4, 8, 16, 3, 5, 9, 17, 6, 10, 18, 12, 20, 24, 7, 11, 19, 13, 21, 25, 14, 22, 26, 28, 15, 23, 27, 29, 30, 31]
def rankN (v : Nat) : Nat := ord5.idxOf v
def chainN (v : Nat) : Nat := ([0, 1, 2, 3, 4, 5, 6, 6, 7, 8, 9, 9, 7, 8, 7, 7, 0, 1, 2, 3, 4, 5, 4, 4, 0, 1, 2, 2, 0, 1, 0, 0] : List Nat).getD v 0
theorem base_ord : ∀ n, n < 6 → (List.range (n + 1)).flatMap (fun many => listsL n many 0) = (ord5.filter fun v => decide (v < 2 ^ n)).map listN := by decide +kernel
theorem less_rank : ∀ a, a < 32 → ∀ b, b < 32 → lessL (listN a) (listN b) = decide (rankN a < rankN b) := by decide +kernel
theorem ord_sorted : ord5.Pairwise fun a b => rankN a < rankN b := by decide +kernel
theorem mem_ord : ∀ v, v < 32 → v ∈ ord5 := by decide +kernel
theorem ord_lt : ∀ v ∈ ord5, v < 32 := by decide +kernel
theorem rank_inj : ∀ a, a < 32 → ∀ b, b < 32 → rankN a = rankN b → a = b := by decide +kernel
theorem listN_inj : ∀ a, a < 32 → ∀ b, b < 32 → listN a = listN b → a = b := by decide +kernel
theorem smaller_bits : ∀ a, a < 32 → ∀ b, b < 32 → (decide ((listN a).length < (listN b).length) && partL (listN a) (listN b)) = decide (a ≠ b ∧ a - (a &&& b) = 0) := by decide +kernel
theorem chain_cmp : ∀ a, a < 32 → ∀ b, b < 32 → chainN a = chainN b → a - (a &&& b) = 0 ∨ b - (b &&& a) = 0 := by decide +kernel
theorem chain_lt : ∀ a, a < 32 → chainN a < 10 := by decide +kernel
theorem listN_len : ∀ a, a < 32 → (listN a).length ≤ 5 := by decide +kernel

theorem nodup_lt : ∀ (n : Nat) (l : List Nat), l.Nodup → (∀ x ∈ l, x < n) → l.length ≤ n := by
  intro n
  induction n with
  | zero => intro l _ h; cases l with
    | nil => exact Nat.le_refl _
    | cons x l => exact absurd (h x List.mem_cons_self) (by omega)
  | succ n ih =>
    intro l hd h
    by_cases hm : n ∈ l
    · have h1 := ih (l.erase n) (hd.erase n) (fun x hx => by
        have := (hd.mem_erase_iff).1 hx
        have := h x this.2
        omega)
      rw [List.length_erase_of_mem hm] at h1
      omega
    · have := ih l hd (fun x hx => by
        have h1 := h x hx
        have h2 : x ≠ n := fun e => hm (e ▸ hx)
        omega)
      omega
theorem anti_len {vs : List Nat} (hd : vs.Nodup) (hlt : ∀ v ∈ vs, v < 32) (ha : ∀ a ∈ vs, ∀ b ∈ vs, a ≠ b → a - (a &&& b) ≠ 0) : vs.length ≤ 10 := by
  have h : (vs.map chainN).Nodup := by
    rw [List.Nodup, List.pairwise_map]
    refine List.Pairwise.imp_of_mem (fun {a b} hm hm' hne he => ?_) hd
    rcases chain_cmp a (hlt a hm) b (hlt b hm') he with h | h
    · exact ha a hm b hm' hne h
    · exact ha b hm' a hm (Ne.symm hne) h
  have := nodup_lt 10 _ h (fun x hx => by obtain ⟨a, hm, rfl⟩ := List.mem_map.1 hx; exact chain_lt a (hlt a hm))
  simpa using this

def leastB (c : Claim) (v : Nat) : Bool := (agreeL c).any (fun t => decide (setN t = v)) && (agreeL c).all (fun t => decide (setN t = v) || decide (setN t - (setN t &&& v) ≠ 0))
theorem setN_small {t : List Int} {n : Nat} (h : t.length = n) (hn : n ≤ 5) : setN t < 2 ^ n := by
  refine Nat.lt_pow_two_of_testBit _ (fun i hi => ?_)
  by_cases h5 : i < 5
  · rw [setN_bit t i h5, List.getD_eq_getElem?_getD, List.getElem?_eq_none (by omega)]; rfl
  · have := setN_lt t
    exact Nat.testBit_lt_two_pow (Nat.lt_of_lt_of_le this (by have := Nat.pow_le_pow_right (show 1 ≤ 2 by decide) (show 5 ≤ i by omega); omega))
theorem isSet_bits {c : Claim} (h : OkC c) {v : Nat} (hv : v < 32) : isSet (agreeL c) (listN v) = (agreeL c).any fun t => decide (setN t = v) := by
  unfold isSet
  apply Bool.eq_iff_iff.2
  simp only [List.any_eq_true, decide_eq_true_eq]
  constructor
  · rintro ⟨t, ht, he⟩
    have hl := (allT_ok h (List.mem_filter.1 ht).1).1
    rw [← listN_set (by rw [hl]; exact h.nc)] at he
    exact ⟨t, ht, listN_inj _ (setN_lt t) _ hv he⟩
  · rintro ⟨t, ht, rfl⟩
    have hl := (allT_ok h (List.mem_filter.1 ht).1).1
    exact ⟨t, ht, (listN_set (by rw [hl]; exact h.nc)).symm⟩
theorem explains_ord {c : Claim} (h : OkC c) : explainsL c = (ord5.filter fun v => (agreeL c).any fun t => decide (setN t = v)).map listN := by
  have h1 : explainsL c = ((List.range (c.causes.length + 1)).flatMap (fun many => listsL c.causes.length many 0)).filter (isSet (agreeL c)) := by
    unfold explainsL; rw [List.filter_flatMap]
  rw [h1, base_ord _ (by have := h.nc; omega), List.filter_map, List.filter_filter]
  congr 1
  refine List.filter_congr fun v hv => ?_
  have hv32 := ord_lt v hv
  simp only [Function.comp_apply]
  rw [isSet_bits h hv32]
  cases ha : (agreeL c).any fun t => decide (setN t = v)
  · rfl
  · obtain ⟨t, ht, he⟩ := List.any_eq_true.1 ha
    have hl := (allT_ok h (List.mem_filter.1 ht).1).1
    have := setN_small hl h.nc
    rw [of_decide_eq_true he] at this
    simp [this]
theorem sets_ord {c : Claim} (h : OkC c) : setsL c = (ord5.filter (leastB c)).map listN := by
  unfold setsL
  rw [explains_ord h, List.filter_map, List.filter_filter]
  congr 1
  refine List.filter_congr fun v hv => ?_
  have hv32 := ord_lt v hv
  simp only [Function.comp_apply]
  have hs : smallerIn ((ord5.filter fun v => (agreeL c).any fun t => decide (setN t = v)).map listN) (listN v) = !(agreeL c).all (fun t => decide (setN t = v) || decide (setN t - (setN t &&& v) ≠ 0)) := by
    apply Bool.eq_iff_iff.2
    unfold smallerIn
    rw [List.any_map, List.any_eq_true, Bool.not_eq_true', ← Bool.not_eq_true, List.all_eq_true]
    constructor
    · rintro ⟨u, hu, hb⟩ hall
      obtain ⟨hu1, hu2⟩ := List.mem_filter.1 hu
      obtain ⟨t, ht, he⟩ := List.any_eq_true.1 hu2
      have he := of_decide_eq_true he
      simp only [Function.comp_apply] at hb
      rw [smaller_bits u (ord_lt u hu1) v hv32] at hb
      have hb := of_decide_eq_true hb
      have h2 := hall t ht
      rw [he] at h2
      simp [hb.1, hb.2] at h2
    · intro hn
      obtain ⟨t, ht, hb⟩ : ∃ t ∈ agreeL c, ¬ (decide (setN t = v) || decide (setN t - (setN t &&& v) ≠ 0)) = true := by
        refine Classical.byContradiction fun hc => hn fun t ht => Classical.byContradiction fun h2 => hc ⟨t, ht, h2⟩
      simp only [Bool.or_eq_true, decide_eq_true_eq, not_or, Classical.not_not] at hb
      refine ⟨setN t, List.mem_filter.2 ⟨mem_ord _ (setN_lt t), List.any_eq_true.2 ⟨t, ht, by simp⟩⟩, ?_⟩
      simp only [Function.comp_apply]
      rw [smaller_bits _ (setN_lt t) v hv32]
      exact decide_eq_true ⟨hb.1, hb.2⟩
  rw [hs, Bool.not_not, leastB, Bool.and_comm]
theorem sorted_least {c : Claim} (h : OkC c) {X : List Nat} (hX : X.Pairwise fun a b => rankN a < rankN b) (hm : ∀ v, v ∈ X ↔ (v < 32 ∧ leastB c v = true)) : setsL c = X.map listN := by
  rw [sets_ord h]
  congr 1
  have hn : ∀ {l : List Nat}, (l.Pairwise fun a b => rankN a < rankN b) → l.Nodup := fun hp => hp.imp (fun {a b} hlt he => by rw [he] at hlt; omega)
  have hp : (ord5.filter (leastB c)).Perm X := by
    rw [List.perm_ext_iff_of_nodup (hn (ord_sorted.filter _)) (hn hX)]
    intro v
    rw [List.mem_filter, hm v]
    exact ⟨fun h => ⟨ord_lt v h.1, h.2⟩, fun h => ⟨mem_ord v h.1, h.2⟩⟩
  exact List.Perm.eq_of_pairwise (fun a b _ _ h1 h2 => by omega) (ord_sorted.filter _) hX hp
theorem least_anti {c : Claim} {a b : Nat} (ha : leastB c a = true) (hb : leastB c b = true) (hne : a ≠ b) : a - (a &&& b) ≠ 0 := by
  unfold leastB at ha hb
  simp only [Bool.and_eq_true, List.any_eq_true, List.all_eq_true, decide_eq_true_eq, Bool.or_eq_true] at ha hb
  obtain ⟨t, ht, rfl⟩ := ha.1
  exact (hb.2 t ht).resolve_left hne

end Go.Proofs.YtkbpmcpmcmnfgaaDoor
