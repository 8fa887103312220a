/- A part of the proof that TopWorn always answers true. -/
import Derived.StillTailTactics
import Derived.Deep.RegionHeld3
import Derived.Test.YtdbfincinjoppabGreatDoorCBase
import Derived.Test.YtdbfincinjoppabGreatDoorCMaps2
import Derived.Test.YtdbfincinjoppabGreatDoorCRef1
import Derived.Test.YtdbfincinjoppabGreatDoorCRegion2
import Derived.Test.YtdbfincinjoppabGreatDoorCTilePure
set_option linter.all false
namespace Go.Proofs.YtdbfincinjoppabGreatDoor
structure Feat where
 name : List UInt8
 nom : Int
 err : Int
structure Cause where
 name : List UInt8
 lo : Int
 hi : Int
 per : List Int
structure Meas where
 feature : Int
 shown : Int
structure Claim where
 feats : List Feat
 causes : List Cause
 meas : List Meas
def dFeat : Feat := ⟨[], 0, 0⟩
def dCause : Cause := ⟨[], 0, 0, []⟩
def dMeas : Meas := ⟨0, 0⟩
def featE (l : List Feat) (k : Nat) : Int :=
 let x := l.getD k dFeat
 let e := fresh x.name ((l.take k).map (·.name))
 if e ≠ 0 then e else if !inB x.nom 1 100000 || !inB x.err 0 100 then 7 else 0
def perBad (l : List Int) : Bool := l.any fun n => !inB n (-20) 20
def causeE (nf : Nat) (x : Cause) : Int :=
 if x.per.length ≠ nf then 3 else
 let e := if perBad x.per then 7 else rangeE ⟨x.lo, x.hi⟩ 1 50
 if e = 0 ∧ x.hi - x.lo > 6 then 2 else e
def causeAt (nf : Nat) (l : List Cause) (k : Nat) : Int :=
 let x := l.getD k dCause
 let e := fresh x.name ((l.take k).map (·.name))
 if e ≠ 0 then e else causeE nf x
def measE (nf : Nat) (l : List Meas) (k : Nat) : Int :=
 let x := l.getD k dMeas
 if !inB x.feature 0 ((nf : Int) - 1) then 4 else if !inB x.shown 0 200000 then 7 else 0
def check (c : Claim) : Int × Int × Int :=
 if ¬ (1 ≤ c.feats.length ∧ c.feats.length ≤ 5) then (1, 0, 3) else
 match firstErr (featE c.feats) c.feats.length with
 | some (k, e) => (1, k, e)
 | none =>
  if 5 < c.causes.length then (2, 0, 3) else
  match firstErr (causeAt c.feats.length c.causes) c.causes.length with
  | some (k, e) => (2, k, e)
  | none =>
   if 8 < c.meas.length then (3, 0, 3) else
   match firstErr (measE c.feats.length c.meas) c.meas.length with
   | some (k, e) => (3, k, e)
   | none => (0, 0, 0)
section
variable {c : Claim}
theorem check_feat {k : Nat} {e : Int} (h : 1 ≤ c.feats.length ∧ c.feats.length ≤ 5) (hk : k < c.feats.length) (hz : ∀ j, j < k → featE c.feats j = 0) (he : e ≠ 0) (hf : featE c.feats k = e) : check c = (1, (k : Int), e) := by
 rw [check, if_neg (not_not_intro h), firstErr_some hk hz (by rw [hf]; exact he), hf]
theorem check_many (h : 1 ≤ c.feats.length ∧ c.feats.length ≤ 5) (hz : ∀ j, j < c.feats.length → featE c.feats j = 0) (h5 : 5 < c.causes.length) : check c = (2, 0, 3) := by
 rw [check, if_neg (not_not_intro h), firstErr_none hz]; simp only; rw [if_pos h5]
theorem check_cause {k : Nat} {e : Int} (h : 1 ≤ c.feats.length ∧ c.feats.length ≤ 5) (hz : ∀ j, j < c.feats.length → featE c.feats j = 0) (h5 : ¬ 5 < c.causes.length)
  (hk : k < c.causes.length) (hz2 : ∀ j, j < k → causeAt c.feats.length c.causes j = 0) (he : e ≠ 0) (hf : causeAt c.feats.length c.causes k = e) : check c = (2, (k : Int), e) := by
 rw [check, if_neg (not_not_intro h), firstErr_none hz]; simp only; rw [if_neg h5, firstErr_some hk hz2 (by rw [hf]; exact he), hf]
theorem check_manym (h : 1 ≤ c.feats.length ∧ c.feats.length ≤ 5) (hz : ∀ j, j < c.feats.length → featE c.feats j = 0) (h5 : ¬ 5 < c.causes.length)
  (hz2 : ∀ j, j < c.causes.length → causeAt c.feats.length c.causes j = 0) (h8 : 8 < c.meas.length) : check c = (3, 0, 3) := by
 rw [check, if_neg (not_not_intro h), firstErr_none hz]; simp only; rw [if_neg h5, firstErr_none hz2]; simp only; rw [if_pos h8]
theorem check_meas {k : Nat} {e : Int} (h : 1 ≤ c.feats.length ∧ c.feats.length ≤ 5) (hz : ∀ j, j < c.feats.length → featE c.feats j = 0) (h5 : ¬ 5 < c.causes.length)
  (hz2 : ∀ j, j < c.causes.length → causeAt c.feats.length c.causes j = 0) (h8 : ¬ 8 < c.meas.length) (hk : k < c.meas.length) (hz3 : ∀ j, j < k → measE c.feats.length c.meas j = 0) (he : e ≠ 0) (hf : measE c.feats.length c.meas k = e) : check c = (3, (k : Int), e) := by
 rw [check, if_neg (not_not_intro h), firstErr_none hz]; simp only; rw [if_neg h5, firstErr_none hz2]; simp only; rw [if_neg h8, firstErr_some hk hz3 (by rw [hf]; exact he), hf]
theorem check_ok (h : 1 ≤ c.feats.length ∧ c.feats.length ≤ 5) (hz : ∀ j, j < c.feats.length → featE c.feats j = 0) (h5 : ¬ 5 < c.causes.length)
  (hz2 : ∀ j, j < c.causes.length → causeAt c.feats.length c.causes j = 0) (h8 : ¬ 8 < c.meas.length) (hz3 : ∀ j, j < c.meas.length → measE c.feats.length c.meas j = 0) : check c = (0, 0, 0) := by
 rw [check, if_neg (not_not_intro h), firstErr_none hz]; simp only; rw [if_neg h5, firstErr_none hz2]; simp only; rw [if_neg h8, firstErr_none hz3]
theorem check_n (h : ¬ (1 ≤ c.feats.length ∧ c.feats.length ≤ 5)) : check c = (1, 0, 3) := by rw [check, if_pos h]
end
theorem featE_get {l : List Feat} {k : Nat} {x : Feat} (h : l[k]? = some x) : featE l k = (if fresh x.name ((l.take k).map (·.name)) ≠ 0 then fresh x.name ((l.take k).map (·.name)) else if !inB x.nom 1 100000 || !inB x.err 0 100 then 7 else 0) := by
 unfold featE; rw [List.getD_eq_getElem?_getD, h]; rfl
theorem causeAt_get {l : List Cause} {k nf : Nat} {x : Cause} (h : l[k]? = some x) : causeAt nf l k = (if fresh x.name ((l.take k).map (·.name)) ≠ 0 then fresh x.name ((l.take k).map (·.name)) else causeE nf x) := by
 unfold causeAt; rw [List.getD_eq_getElem?_getD, h]; rfl
theorem measE_get {l : List Meas} {k nf : Nat} {x : Meas} (h : l[k]? = some x) : measE nf l k = (if !inB x.feature 0 ((nf : Int) - 1) then 4 else if !inB x.shown 0 200000 then 7 else 0) := by
 unfold measE; rw [List.getD_eq_getElem?_getD, h]; rfl
open Go.RowKit
def FeatR : Rd Feat := fun _ _ x vs => ∃ s : ByteArray, vs = [.string s, .int .i64 x.nom, .int .i64 x.err] ∧ s.data.toList = x.name ∧ s.size ≤ 9223372036854775807
theorem FeatR.good : FeatR.Good 3 where
 len := by rintro S w x vs ⟨s, rfl, _⟩; rfl
 one := by rintro S w x vs ⟨s, rfl, _⟩ v hv; simp at hv; rcases hv with rfl | rfl | rfl <;> rfl
 keep := by rintro S w w' x vs h hk; exact h
 mono := by rintro S T w x vs h hk; exact h
 bound := by rintro S w x vs h; exact h
def MeasR : Rd Meas := fun _ _ x vs => vs = [.int .i64 x.feature, .int .i64 x.shown]
theorem MeasR.good : MeasR.Good 2 where
 len := by rintro S w x vs rfl; rfl
 one := by rintro S w x vs rfl v hv; simp at hv; rcases hv with rfl | rfl <;> rfl
 keep := by rintro S w w' x vs h hk; exact h
 mono := by rintro S T w x vs h hk; exact h
 bound := by rintro S w x vs h; exact h
def CauseR : Rd Cause := fun S w x vs => ∃ (s : ByteArray) (A : Option Addr) (n c : Nat), vs = [.string s, .int .i64 x.lo, .int .i64 x.hi, .slice A n c] ∧ s.data.toList = x.name ∧ s.size ≤ 9223372036854775807 ∧ Ints S w A n x.per
theorem CauseR.good : CauseR.Good 4 where
 len := by rintro S w x vs ⟨s, A, n, c, rfl, _⟩; rfl
 one := by rintro S w x vs ⟨s, A, n, c, rfl, _⟩ v hv; simp at hv; rcases hv with rfl | rfl | rfl | rfl <;> rfl
 keep := by rintro S w w' x vs ⟨s, A, n, c, rfl, h1, h2, h3⟩ hk; exact ⟨s, A, n, c, rfl, h1, h2, h3.keep IntR.good hk⟩
 mono := by rintro S T w x vs ⟨s, A, n, c, rfl, h1, h2, h3⟩ hk; exact ⟨s, A, n, c, rfl, h1, h2, h3.mono IntR.good hk⟩
 bound := by rintro S w x vs ⟨s, A, n, c, rfl, h1, h2, h3⟩; exact ⟨s, A, n, c, rfl, h1, h2, h3.bound IntR.good⟩
abbrev Feats := SliceOf FeatR 3
abbrev Causes := SliceOf CauseR 4
abbrev Meass := SliceOf MeasR 2
section
variable {S : Foot} {w : World} {A : Option Addr} {n k : Nat}
theorem Feats.get {xs : List Feat} (h : Feats S w A n xs) (hk : k < n) :
  ∃ b off s a z, A = some ⟨b, off, none⟩ ∧ b < w.heap.size ∧ w.cell? ⟨b, off + k * 3, none⟩ = some (.string s) ∧ w.cell? ⟨b, off + k * 3 + 1, none⟩ = some (.int .i64 a) ∧ w.cell? ⟨b, off + k * 3 + 2, none⟩ = some (.int .i64 z) ∧ s.size ≤ 9223372036854775807 ∧ Hid (xs[k]? = some ⟨s.data.toList, a, z⟩) := by
 have hlt : k < xs.length := by rw [h.1]; exact hk
 obtain ⟨b, off, vs, hA, _, hb, ⟨s, rfl, hn, hs⟩, hc⟩ := h.2.2 k xs[k] (List.getElem?_eq_getElem hlt)
 exact ⟨b, off, s, xs[k].nom, xs[k].err, hA, hb, by simpa using hc 0 _ rfl, by simpa using hc 1 _ rfl, by simpa using hc 2 _ rfl, hs, by rw [Hid, hn]; exact List.getElem?_eq_getElem hlt⟩
theorem Causes.get {xs : List Cause} (h : Causes S w A n xs) (hk : k < n) :
  ∃ b off s lo hi P np cp per, A = some ⟨b, off, none⟩ ∧ b < w.heap.size ∧ w.cell? ⟨b, off + k * 4, none⟩ = some (.string s) ∧ w.cell? ⟨b, off + k * 4 + 1, none⟩ = some (.int .i64 lo) ∧ w.cell? ⟨b, off + k * 4 + 2, none⟩ = some (.int .i64 hi) ∧
   w.cell? ⟨b, off + k * 4 + 3, none⟩ = some (.slice P np cp) ∧ s.size ≤ 9223372036854775807 ∧ Ints S w P np per ∧ Hid (xs[k]? = some ⟨s.data.toList, lo, hi, per⟩) := by
 have hlt : k < xs.length := by rw [h.1]; exact hk
 obtain ⟨b, off, vs, hA, _, hb, ⟨s, P, np, cp, rfl, hn, hs, hi⟩, hc⟩ := h.2.2 k xs[k] (List.getElem?_eq_getElem hlt)
 exact ⟨b, off, s, xs[k].lo, xs[k].hi, P, np, cp, xs[k].per, hA, hb, by simpa using hc 0 _ rfl, by simpa using hc 1 _ rfl, by simpa using hc 2 _ rfl, by simpa using hc 3 _ rfl, hs, hi, by rw [Hid, hn]; exact List.getElem?_eq_getElem hlt⟩
theorem Meass.get {xs : List Meas} (h : Meass S w A n xs) (hk : k < n) :
  ∃ b off a z, A = some ⟨b, off, none⟩ ∧ b < w.heap.size ∧ w.cell? ⟨b, off + k * 2, none⟩ = some (.int .i64 a) ∧ w.cell? ⟨b, off + k * 2 + 1, none⟩ = some (.int .i64 z) ∧ Hid (xs[k]? = some ⟨a, z⟩) := by
 have hlt : k < xs.length := by rw [h.1]; exact hk
 obtain ⟨b, off, vs, hA, _, hb, rfl, hc⟩ := h.2.2 k xs[k] (List.getElem?_eq_getElem hlt)
 exact ⟨b, off, xs[k].feature, xs[k].shown, hA, hb, by simpa using hc 0 _ rfl, by simpa using hc 1 _ rfl, List.getElem?_eq_getElem hlt⟩
end
structure ClaimAt (S : Foot) (w : World) (A : Option Addr) (n : Nat) (B : Option Addr) (m : Nat) (C : Option Addr) (q : Nat) (c : Claim) : Prop where
 fs : Feats S w A n c.feats
 cs : Causes S w B m c.causes
 ms : Meass S w C q c.meas
theorem ClaimAt.keep {S : Foot} {w w' : World} {A B C : Option Addr} {n m q : Nat} {c : Claim} (h : ClaimAt S w A n B m C q c) (hk : Keeps S w w') : ClaimAt S w' A n B m C q c :=
 ⟨h.fs.keep FeatR.good hk, h.cs.keep CauseR.good hk, h.ms.keep MeasR.good hk⟩
structure OkC (c : Claim) : Prop where
 nf : 1 ≤ c.feats.length ∧ c.feats.length ≤ 5
 nc : c.causes.length ≤ 5
 nm : c.meas.length ≤ 8
 feat : ∀ {k : Nat} {x : Feat}, c.feats[k]? = some x → 1 ≤ x.nom ∧ x.nom ≤ 100000 ∧ 0 ≤ x.err ∧ x.err ≤ 100
 cause : ∀ {k : Nat} {x : Cause}, c.causes[k]? = some x → x.per.length = c.feats.length ∧ (∀ v ∈ x.per, -20 ≤ v ∧ v ≤ 20) ∧ 1 ≤ x.lo ∧ x.lo ≤ x.hi ∧ x.hi ≤ 50 ∧ x.hi - x.lo ≤ 6
 meas : ∀ {k : Nat} {x : Meas}, c.meas[k]? = some x → 0 ≤ x.feature ∧ x.feature < c.feats.length ∧ 0 ≤ x.shown ∧ x.shown ≤ 200000
theorem check_zero {c : Claim} (h : (check c).2.2 = 0) : (1 ≤ c.feats.length ∧ c.feats.length ≤ 5) ∧ (∀ j, j < c.feats.length → featE c.feats j = 0) ∧ ¬ 5 < c.causes.length ∧
  (∀ j, j < c.causes.length → causeAt c.feats.length c.causes j = 0) ∧ ¬ 8 < c.meas.length ∧ (∀ j, j < c.meas.length → measE c.feats.length c.meas j = 0) := by
 by_cases h1 : 1 ≤ c.feats.length ∧ c.feats.length ≤ 5
 ·rcases firstErr_cases (featE c.feats) c.feats.length with ⟨_, h2⟩ | ⟨k, hk, _, he, hj⟩
  ·by_cases h3 : 5 < c.causes.length
   ·rw [check_many h1 h2 h3] at h; cases h
   rcases firstErr_cases (causeAt c.feats.length c.causes) c.causes.length with ⟨_, h4⟩ | ⟨k, hk, _, he, hj⟩
   ·by_cases h5 : 8 < c.meas.length
    ·rw [check_manym h1 h2 h3 h4 h5] at h; cases h
    rcases firstErr_cases (measE c.feats.length c.meas) c.meas.length with ⟨_, h6⟩ | ⟨k, hk, _, he, hj⟩
    ·exact ⟨h1, h2, h3, h4, h5, h6⟩
    rw [check_meas h1 h2 h3 h4 h5 hk hj he rfl] at h; exact absurd h he
   rw [check_cause h1 h2 h3 hk hj he rfl] at h; exact absurd h he
  rw [check_feat h1 hk hj he rfl] at h; exact absurd h he
 rw [check_n h1] at h; cases h
theorem okC_of {c : Claim} (h : (check c).2.2 = 0) : OkC c := by
 obtain ⟨h1, h2, h3, h4, h5, h6⟩ := check_zero h
 refine ⟨h1, by omega, by omega, ?_, ?_, ?_⟩
 ·intro k x hx
  have hk : k < c.feats.length := by obtain ⟨h, _⟩ := List.getElem?_eq_some_iff.1 hx; exact h
  have := h2 k hk
  rw [featE_get hx] at this
  split at this
  ·rename_i h; exact absurd this h
  split at this
  ·cases this
  rename_i h; simp [inB] at h; omega
 ·intro k x hx
  have hk : k < c.causes.length := by obtain ⟨h, _⟩ := List.getElem?_eq_some_iff.1 hx; exact h
  have := h4 k hk
  rw [causeAt_get hx] at this
  split at this
  ·rename_i h; exact absurd this h
  unfold causeE at this
  split at this
  ·cases this
  rename_i hl
  have hl : x.per.length = c.feats.length := Classical.byContradiction hl
  by_cases hp : perBad x.per = true
  ·rw [hp] at this; simp at this
  rw [if_neg hp] at this
  have hpv : ∀ v ∈ x.per, -20 ≤ v ∧ v ≤ 20 := by
   intro v hv
   have h' : inB v (-20) 20 = true := by
    cases h : inB v (-20) 20
    ·exfalso; apply hp; unfold perBad; rw [List.any_eq_true]; exact ⟨v, hv, by simp [h]⟩
    rfl
   exact inB_iff.1 h'
  unfold rangeE at this
  simp only at this
  by_cases hb : (!inB x.lo 1 50 || !inB x.hi 1 50) = true
  ·rw [if_pos hb] at this; simp at this
  rw [if_neg hb] at this
  simp [inB] at hb
  by_cases hg : x.lo > x.hi
  ·rw [if_pos hg] at this; simp at this
  rw [if_neg hg] at this
  by_cases h6 : x.hi - x.lo > 6
  ·rw [if_pos ⟨rfl, h6⟩] at this; cases this
  exact ⟨hl, hpv, by omega, by omega, by omega, by omega⟩
 intro k x hx
 have hk : k < c.meas.length := by obtain ⟨h, _⟩ := List.getElem?_eq_some_iff.1 hx; exact h
 have := h6 k hk
 rw [measE_get hx] at this
 split at this
 ·cases this
 rename_i h
 split at this
 ·cases this
 rename_i h'; simp [inB] at h h'; omega
def vals (x : Cause) : List Int := 0 :: (List.range (x.hi - x.lo + 1).toNat).map (fun i : Nat => x.lo + i)
def allGo : List (List Int) → List Cause → List (List Int)
 | out, [] => out
 | out, x :: l => allGo (out.flatMap fun t => (vals x).map fun v => t ++ [v]) l
def allT (l : List Cause) : List (List Int) := allGo [[]] l
def perOf (c : Claim) (f i : Nat) : Int := (c.causes.getD i dCause).per.getD f 0
def lenUpto (c : Claim) (t : List Int) (f : Nat) : Nat → Int
 | 0 => (c.feats.getD f dFeat).nom
 | k + 1 => lenUpto c t f k + t.getD k 0 * perOf c f k
def len (c : Claim) (t : List Int) (f : Nat) : Int := lenUpto c t f t.length
def TruthOk (c : Claim) (t : List Int) : Prop := t.length ≤ c.causes.length ∧ ∀ v ∈ t, 0 ≤ v ∧ v ≤ 50
theorem mul_bd {a b : Int} (h1 : 0 ≤ a) (h2 : a ≤ 50) (h3 : -20 ≤ b) (h4 : b ≤ 20) : -1000 ≤ a * b ∧ a * b ≤ 1000 := by
 constructor
 ·have := Int.mul_le_mul_of_nonneg_left h3 h1
  omega
 have := Int.mul_le_mul_of_nonneg_left h4 h1
 omega
theorem term_bd {c : Claim} (h : OkC c) {t : List Int} (ht : TruthOk c t) {f : Nat} (hf : f < c.feats.length) {k : Nat} (hk : k < t.length) : -1000 ≤ t.getD k 0 * perOf c f k ∧ t.getD k 0 * perOf c f k ≤ 1000 := by
 have hx := List.getElem?_eq_getElem hk
 rw [getD_of hx]
 have h1 := ht.2 t[k] (List.getElem_mem hk)
 have hkc : k < c.causes.length := Nat.lt_of_lt_of_le hk ht.1
 have hy := List.getElem?_eq_getElem hkc
 obtain ⟨hl, hp, _⟩ := h.cause hy
 have hfl : f < (c.causes[k]).per.length := by rw [hl]; exact hf
 have h2 : perOf c f k = (c.causes[k]).per[f] := by unfold perOf; rw [getD_of hy, getD_of (List.getElem?_eq_getElem hfl)]
 rw [h2]
 have h3 := hp _ (List.getElem_mem hfl)
 exact mul_bd h1.1 h1.2 h3.1 h3.2
theorem lenUpto_bd {c : Claim} (h : OkC c) {t : List Int} (ht : TruthOk c t) {f : Nat} (hf : f < c.feats.length) {k : Nat} (hk : k ≤ t.length) : 1 - 1000 * k ≤ lenUpto c t f k ∧ lenUpto c t f k ≤ 100000 + 1000 * k := by
 induction k with
 | zero =>
  have hx := List.getElem?_eq_getElem hf
  have := h.feat hx
  rw [lenUpto, getD_of hx]; omega
 | succ k ih =>
  have h1 := ih (by omega)
  have h2 := term_bd h ht hf (k := k) (by omega)
  rw [lenUpto]; omega
theorem len_bd {c : Claim} (h : OkC c) {t : List Int} (ht : TruthOk c t) {f : Nat} (hf : f < c.feats.length) : -5000 ≤ len c t f ∧ len c t f ≤ 105000 := by
 have h1 := lenUpto_bd h ht hf (Nat.le_refl _)
 have := ht.1
 have := h.nc
 unfold len; omega
def measOk (c : Claim) (t : List Int) (x : Meas) : Bool :=
 inB x.shown (len c t x.feature.toNat - (c.feats.getD x.feature.toNat dFeat).err) (len c t x.feature.toNat + (c.feats.getD x.feature.toNat dFeat).err)
def untrueL (c : Claim) (t : List Int) : List Int := ((List.range c.meas.length).filter fun i => !measOk c t (c.meas.getD i dMeas)).map fun i : Nat => (i : Int)
def agreeL (c : Claim) : List (List Int) := (allT c.causes).filter fun t => (untrueL c t).isEmpty
def setL (t : List Int) : List Int := ((List.range t.length).filter fun i => decide (0 < t.getD i 0)).map fun i : Nat => (i : Int)
def lexLt : List Int → List Int → Bool
 | x :: a, y :: b => if x = y then lexLt a b else decide (x < y)
 | _, _ => false
def lessL (a b : List Int) : Bool := if a.length ≠ b.length then decide (a.length < b.length) else lexLt a b
def partL (a b : List Int) : Bool := a.all fun x => decide (x ∈ b)
theorem range_filter_succ {p : Nat → Bool} {k : Nat} : ((List.range (k + 1)).filter p).map (fun i : Nat => (i : Int)) = ((List.range k).filter p).map (fun i : Nat => (i : Int)) ++ (if p k then [(k : Int)] else []) := by
 rw [List.range_succ, List.filter_append, List.map_append]
 by_cases h : p k <;> simp [h]
theorem vals_len {x : Cause} (h : x.lo ≤ x.hi) (h6 : x.hi - x.lo ≤ 6) : 2 ≤ (vals x).length ∧ (vals x).length ≤ 8 := by
 unfold vals; simp; omega
theorem allT_mem {l : List Cause} (hl : ∀ x ∈ l, 1 ≤ x.lo ∧ x.lo ≤ x.hi ∧ x.hi ≤ 50) {t : List Int} (h : t ∈ allT l) : t.length = l.length ∧ ∀ v ∈ t, 0 ≤ v ∧ v ≤ 50 := by
 unfold allT at h
 have key : ∀ (l : List Cause) (out : List (List Int)) (n : Nat), (∀ x ∈ l, 1 ≤ x.lo ∧ x.lo ≤ x.hi ∧ x.hi ≤ 50) → (∀ t ∈ out, t.length = n ∧ ∀ v ∈ t, 0 ≤ v ∧ v ≤ 50) → ∀ t ∈ allGo out l, t.length = n + l.length ∧ ∀ v ∈ t, 0 ≤ v ∧ v ≤ 50 := by
  intro l
  induction l with
  | nil => intro out n _ ho t ht; exact ho t ht
  | cons x l ih =>
   intro out n hl ho t ht
   have hx := hl x (List.mem_cons_self)
   have := ih (out.flatMap fun t => (vals x).map fun v => t ++ [v]) (n + 1) (fun y hy => hl y (List.mem_cons_of_mem _ hy)) (by
    intro t' ht'
    rw [List.mem_flatMap] at ht'
    obtain ⟨t0, ht0, ht'⟩ := ht'
    rw [List.mem_map] at ht'
    obtain ⟨v, hv, rfl⟩ := ht'
    obtain ⟨h1, h2⟩ := ho t0 ht0
    refine ⟨by simp [h1], fun u hu => ?_⟩
    rw [List.mem_append, List.mem_singleton] at hu
    rcases hu with hu | rfl
    ·exact h2 u hu
    unfold vals at hv
    rw [List.mem_cons, List.mem_map] at hv
    rcases hv with rfl | ⟨i, hi, rfl⟩
    ·omega
    rw [List.mem_range] at hi; omega) t ht
   rw [List.length_cons]; exact ⟨by omega, this.2⟩
 have := key l [[]] 0 hl (by intro t ht; simp at ht; subst ht; simp) t h
 exact ⟨by omega, this.2⟩
theorem allT_ok {c : Claim} (h : OkC c) {t : List Int} (ht : t ∈ allT c.causes) : t.length = c.causes.length ∧ TruthOk c t := by
 have := allT_mem (l := c.causes) (fun x hx => by obtain ⟨k, hk⟩ := List.getElem?_of_mem hx; have := h.cause hk; omega) ht
 exact ⟨this.1, by rw [this.1]; exact Nat.le_refl _, this.2⟩
theorem allGo_len {l : List Cause} (hl : ∀ x ∈ l, x.lo ≤ x.hi ∧ x.hi - x.lo ≤ 6) (out : List (List Int)) : (allGo out l).length ≤ out.length * 8 ^ l.length ∧ out.length ≤ (allGo out l).length := by
 induction l generalizing out with
 | nil => simp [allGo]
 | cons x l ih =>
  have hx := hl x (List.mem_cons_self)
  have hv := vals_len hx.1 hx.2
  have h1 : (out.flatMap fun t => (vals x).map fun v => t ++ [v]).length = out.length * (vals x).length := by
   clear ih hl
   induction out with
   | nil => simp
   | cons t out ih => rw [List.flatMap_cons, List.length_append, ih, List.length_map, List.length_cons, Nat.succ_mul]; omega
  have := ih (fun y hy => hl y (List.mem_cons_of_mem _ hy)) (out.flatMap fun t => (vals x).map fun v => t ++ [v])
  rw [h1] at this
  rw [allGo, List.length_cons, Nat.pow_succ]
  constructor
  ·refine Nat.le_trans this.1 ?_
   rw [Nat.mul_comm (8 ^ l.length) 8, ← Nat.mul_assoc]
   exact Nat.mul_le_mul_right _ (Nat.mul_le_mul_left _ hv.2)
  refine Nat.le_trans ?_ this.2
  exact Nat.le_mul_of_pos_right _ (by omega)
theorem allT_len {c : Claim} (h : OkC c) : (allT c.causes).length ≤ 32768 ∧ 1 ≤ (allT c.causes).length := by
 have h1 := allGo_len (l := c.causes) (fun x hx => by obtain ⟨k, hk⟩ := List.getElem?_of_mem hx; have := h.cause hk; omega) [[]]
 have h2 : 8 ^ c.causes.length ≤ 8 ^ 5 := Nat.pow_le_pow_right (by decide) h.nc
 simp only [List.length_cons, List.length_nil] at h1
 unfold allT
 omega
def listsL (below : Nat) : Nat → Nat → List (List Int)
 | 0, _ => [[]]
 | m + 1, n => (List.range (below - n)).flatMap fun i => (listsL below m (n + i + 1)).map fun r => ((n + i : Nat) : Int) :: r
def isSet (l : List (List Int)) (s : List Int) : Bool := l.any fun t => decide (setL t = s)
def explainsL (c : Claim) : List (List Int) := (List.range (c.causes.length + 1)).flatMap fun many => (listsL c.causes.length many 0).filter (isSet (agreeL c))
open Go.RowKit
open Go.RowKit
theorem infoInts : (Tryz.prog.info? 45).map (fun i => (i.zero, i.size, i.bytes)) = some (some (.slice none 0 0), 1, 24) := by kernel_rfl
open Go.RowKit
open Go.RowKit
open Go.RowKit
def err (c : Claim) : Int := (check c).2.2
def smallerIn (all : List (List Int)) (s : List Int) : Bool := all.any fun u => decide (u.length < s.length) && partL u s
def setsLB (c : Claim) : List (List Int) := (explainsL c).filter fun s => !smallerIn (explainsL c) s
def setsR (c : Claim) : List (List Int) × Int := if err c ≠ 0 then ([], err c) else (setsLB c, 0)
def isMust (l : List (List Int)) (i : Nat) : Bool := l.all fun t => decide (0 < t.getD i 0)
def isMay (l : List (List Int)) (i : Nat) : Bool := l.any fun t => decide (0 < t.getD i 0)
def mustL (c : Claim) : List Int := ((List.range c.causes.length).filter (isMust (agreeL c))).map fun i : Nat => (i : Int)
def mayL (c : Claim) : List Int := ((List.range c.causes.length).filter (isMay (agreeL c))).map fun i : Nat => (i : Int)
def err8B (c : Claim) : Int := if err c ≠ 0 then err c else if agreeL c = [] then 8 else 0
def mustR (c : Claim) : List Int × List Int × Int := if err8B c ≠ 0 then ([], [], err8B c) else (mustL c, mayL c, 0)
theorem ends_snocB (lo hi : Int) (l : List Int) (x : Int) : ends lo hi (l ++ [x]) = (min (ends lo hi l).1 x, max (ends lo hi l).2 x) := by
 induction l generalizing lo hi with
 | nil => rfl
 | cons y l ih => exact ih _ _
def errAt (c : Claim) (i : Int) (n : Nat) : Int := if err c ≠ 0 then err c else if inB i 0 ((n : Int) - 1) then (if agreeL c = [] then 8 else 0) else 4
def amountR (c : Claim) (i : Int) : (Int × Int) × Int :=
 if errAt c i c.causes.length ≠ 0 then ((0, 0), errAt c i c.causes.length) else (endsOf ((agreeL c).map fun t => t.getD i.toNat 0), 0)
def valueR (c : Claim) (f : Int) : (Int × Int) × Int :=
 if errAt c f c.feats.length ≠ 0 then ((0, 0), errAt c f c.feats.length) else (endsOf ((agreeL c).map fun t => len c t f.toNat), 0)
def better (b u : List Int) : List Int := if lessL (setL u) (setL b) then u else b
def plainOf : List (List Int) → List Int
 | [] => []
 | t :: l => l.foldl better t
def plainR (c : Claim) : List Int × Int := if err8B c ≠ 0 then ([], err8B c) else (plainOf (agreeL c), 0)
def fewer (b u : List Int) : List Int := if lessL u b then u else b
def fewOf : List (List Int) → List Int
 | [] => []
 | t :: l => l.foldl fewer t
def wrongR (c : Claim) : List Int × Int := if err c ≠ 0 then ([], err c) else (fewOf ((allT c.causes).map (untrueL c)), 0)
theorem err8_bad {c : Claim} (h : err c ≠ 0) : err8B c = err c := by rw [err8B, if_pos h]
theorem err8_none {c : Claim} (h : err c = 0) (ha : agreeL c = []) : err8B c = 8 := by rw [err8B, if_neg (by simp [h]), if_pos ha]
theorem err8_ok {c : Claim} (h : err c = 0) (ha : agreeL c ≠ []) : err8B c = 0 := by rw [err8B, if_neg (by simp [h]), if_neg ha]
open Go.RowKit
set_option maxRecDepth 100000 in
set_option maxHeartbeats 1000000 in
theorem same_any {S T : Foot} {A B : Option Addr} {n c m d : Nat} {xs ys : List (List Int)} (w : World) (h : Rows S w A n xs) (g : Rows T w B m ys) :
  Calls Tryz.prog 32 #[.slice A n c, .slice B m d] w fun e w' => e = .returned (.bool (decide (xs = ys))) ∧ ∃ q, w' = w.drewN q := by
 have hle := h.le
 have gle := g.le
 by_cases hnm : n = m
 ·obtain rfl : n = m := hnm
  have hb : ((n : Int) != (n : Int)) = false := by simp
  go_enter Tryz.func32, Tryz.ntmps32
  go_wp2
  go_loopw [5] (fun i wr => ∃ k : Nat, k ≤ n ∧ i = .int .i64 k ∧ Hid (xs.take k = ys.take k) ∧ ∃ q, wr = w.drewN q) (fun i _ => n - (intOf i).toNat)
  case atStart => exact ⟨0, Nat.zero_le _, rfl, by simp [Hid], 0, rfl⟩
  case round =>
   obtain ⟨k, hk, rfl, Hn, q, hq⟩ := hrel
   have Hq := Lib.hid hq
   clear hq
   by_cases hlt : k < n
   ·obtain ⟨b, off, x, A1, n1, c1, rfl, hcell, hI, Hx⟩ := Rows.get (h.keep (SlR.good IntR.good) (w' := wr) (by rw [Hq.out]; exact Keeps.drewN _ _)) hlt
    obtain ⟨b', off', y, A2, n2, c2, rfl, hcell', hI', Hy⟩ := Rows.get (g.keep (SlR.good IntR.good) (w' := wr) (by rw [Hq.out]; exact Keeps.drewN _ _)) hlt
    by_cases hm : x = y
    ·have HM := Lib.hid hm
     have hmb := decide_eq_true hm
     clear hm
     go_wp2
     go_still_tail 8, (by kernel_rfl)
     go_wp2_with (go_at_call 25; refine (ints_any _ (hI.keep IntR.good (Keeps.drew _)) (hI'.keep IntR.good (Keeps.drew _))).mono ?_; rintro e w2 ⟨rfl, q1, rfl⟩)
     go_roundw
     case rel => exact ⟨k + 1, by omega, by go_num, by rw [Hid, take_snoc_get Hx.out, take_snoc_get Hy.out, Hn.out, HM.out], _, by rw [Hq.out]; simp only [World.drew_drewN, World.drewN_drewN]; exact rfl⟩
     case measure => simp [intOf]; omega
    have HM := Lib.hid hm
    have hmb := decide_eq_false hm
    clear hm
    go_wp2
    go_still_tail 8, (by kernel_rfl)
    go_wp2_with (go_at_call 25; refine (ints_any _ (hI.keep IntR.good (Keeps.drew _)) (hI'.keep IntR.good (Keeps.drew _))).mono ?_; rintro e w2 ⟨rfl, q1, rfl⟩)
    go_ret
    refine ⟨ret_bool ?_, _, by rw [Hq.out]; simp only [World.drew_drewN, World.drewN_drewN]; exact rfl⟩
    symm; rw [decide_eq_false_iff_not]; rintro rfl
    have h1 := Hx.out; rw [Hy.out] at h1; exact HM.out (Option.some.inj h1).symm
   go_wp2
   go_ret
   refine ⟨ret_bool ?_, _, Hq.out⟩
   symm; rw [decide_eq_true_iff]
   have := Hn.out
   rwa [List.take_of_length_le (by rw [h.len]; omega), List.take_of_length_le (by rw [g.len]; omega)] at this
 have hb : ((n : Int) != (m : Int)) = true := by simp; omega
 have HM := Lib.hid hnm
 clear hnm
 go_enter Tryz.func32, Tryz.ntmps32
 go_wp2
 go_ret
 exact ⟨ret_bool (by symm; rw [decide_eq_false_iff_not]; rintro rfl; exact HM.out (h.len.symm.trans g.len)), 0, rfl⟩
open Go.RowKit
open Go.RowKit
theorem plainOf_snoc {l : List (List Int)} (h : l ≠ []) (t : List Int) : plainOf (l ++ [t]) = better (plainOf l) t := by
 cases l with
 | nil => exact absurd rfl h
 | cons x l => simp [plainOf, List.foldl_append]
theorem plainOf_mem {l : List (List Int)} (h : l ≠ []) : plainOf l ∈ l := by
 cases l with
 | nil => exact absurd rfl h
 | cons x l =>
  have key : ∀ (l : List (List Int)) (x : List Int), l.foldl better x = x ∨ l.foldl better x ∈ l := by
   intro l
   induction l with
   | nil => intro x; exact .inl rfl
   | cons y l ih =>
    intro x
    rw [List.foldl_cons]
    rcases ih (better x y) with h | h
    ·rw [h]; unfold better; split
     ·exact .inr (List.mem_cons_self)
     exact .inl rfl
    exact .inr (List.mem_cons_of_mem _ h)
  rcases key l x with h | h
  ·rw [plainOf, h]; exact List.mem_cons_self
  exact List.mem_cons_of_mem _ h
theorem fewOf_snoc {l : List (List Int)} (h : l ≠ []) (t : List Int) : fewOf (l ++ [t]) = fewer (fewOf l) t := by
 cases l with
 | nil => exact absurd rfl h
 | cons x l => simp [fewOf, List.foldl_append]
theorem take_ne {α : Type} {l : List α} {k : Nat} (hk : 1 ≤ k) (h : l ≠ []) : l.take k ≠ [] := by
 intro e; rw [List.take_eq_nil_iff] at e; rcases e with e | e
 ·omega
 exact h e
theorem take_one {α : Type} {l : List α} {x : α} (h : l[0]? = some x) : l.take 1 = [x] := by
 cases l with
 | nil => simp at h
 | cons y l => simp at h; simp [h]
open Go.RowKit
open Go.RowKit
theorem ret_span1 {fn : Func} {p : Tmp} (h : fn.results = #[.cell p 23]) {tmps : Array Value} {g : Nat} {lo hi : Int} {w : World} (hp : tmps.getD p undef = .pointer (some ⟨g, 0, none⟩))
  (h0 : w.cell? ⟨g, 0, none⟩ = some (.int .i64 lo)) (h1 : w.cell? ⟨g, 1, none⟩ = some (.int .i64 hi)) : (results fn tmps).run Tryz.prog w = .ok (.agg #[.int .i64 lo, .int .i64 hi]) w := by
 have hp' : tmps[p]?.getD undef = .pointer (some ⟨g, 0, none⟩) := by simpa using hp
 simp [results, h, hp', asAddr, go_sem, h0, h1]
theorem ret_claim1 {fn : Func} {p : Tmp} (h : fn.results = #[.cell p 44]) {tmps : Array Value} {g : Nat} {a b c : Value} {w : World} (hp : tmps.getD p undef = .pointer (some ⟨g, 0, none⟩))
  (h0 : w.cell? ⟨g, 0, none⟩ = some a) (h1 : w.cell? ⟨g, 1, none⟩ = some b) (h2 : w.cell? ⟨g, 2, none⟩ = some c) : (results fn tmps).run Tryz.prog w = .ok (.agg #[a, b, c]) w := by
 have hp' : tmps[p]?.getD undef = .pointer (some ⟨g, 0, none⟩) := by simpa using hp
 simp [results, h, hp', asAddr, go_sem, h0, h1, h2]
set_option maxHeartbeats 400000 in
theorem span_any (lo hi : Int) (w : World) :
  Calls Tryz.prog 33 #[.int .i64 lo, .int .i64 hi] w fun e w' => e = .returned (.agg #[.int .i64 lo, .int .i64 hi]) ∧ Below w.heap.size w w' := by
 go_enter Tryz.func33, Tryz.ntmps33
 have hr : Blk (w.alloc (.cells #[.int .i64 lo, .int .i64 hi] 23)) w.heap.size 23 #[.int .i64 lo, .int .i64 hi] := Blk.new _ _ _ rfl
 go_wp2
 exact bodyPost_ret (ret_span1 rfl rfl hr.c0 hr.c1) rfl ⟨rfl, bl_alloc (Below.refl _ _) _ (Nat.le_refl _)⟩
open Go.RowKit
open Go.RowKit
open Go.RowKit
theorem one_any (f z : Int) (w : World) :
  Calls Tryz.prog 28 #[.int .i64 f, .int .i64 z] w fun e w' => ∃ A' c', e = .returned (.slice A' 1 c') ∧ Meass (fun k => w.heap.size ≤ k) w' A' 1 [⟨f, z⟩] ∧ Below w.heap.size w w' := by
 have hr : Blk (w.alloc (.cells #[.int .i64 f, .int .i64 z] 49)) w.heap.size 49 #[.int .i64 f, .int .i64 z] := Blk.new _ _ _ rfl
 go_enter Tryz.func28, Tryz.ntmps28
 go_wp2
 go_ret
 refine ⟨_, _, rfl, ?_, bl_alloc (Below.refl _ _) _ (Nat.le_refl _)⟩
 refine ⟨rfl, by decide, ?_⟩
 intro k y hy
 have hk : k = 0 := by have := of_getq' hy; simp at this; omega
 subst hk
 simp at hy; subst hy
 exact ⟨_, _, [.int .i64 f, .int .i64 z], rfl, Nat.le_refl _, hr.lt, rfl, fun j u hu => by
  have hj : j = 0 ∨ j = 1 := by have := of_getq' hu; simp at this; omega
  rcases hj with rfl | rfl
  ·simp at hu; subst hu; simpa using hr.c0
  simp at hu; subst hu; simpa using hr.c1⟩
end Go.Proofs.YtdbfincinjoppabGreatDoor
