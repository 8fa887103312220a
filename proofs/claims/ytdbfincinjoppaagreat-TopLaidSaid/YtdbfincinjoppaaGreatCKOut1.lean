/- A part of the proof that TopLaid always answers true. -/
import Derived.Test.YtdbfincinjoppaaGreatCKLaw1
import Derived.Test.YtdbfincinjoppaaGreatCMaps2
import Derived.Test.YtdbfincinjoppaaGreatCRef1
import Derived.Test.YtdbfincinjoppaaGreatCRegion2
import Derived.Test.YtdbfincinjoppaaGreatCTCheck
import Derived.Test.YtdbfincinjoppaaGreatCTEnter0
import Derived.Test.YtdbfincinjoppaaGreatCTWidth
set_option linter.all false
namespace Go.Proofs.YtdbfincinjoppaaGreat
open Go.RowKit Go.Shelf
def ByteR : Rd Nat := fun _ _ x vs => vs = [.int .u8 (x : Int)] ∧ x < 256
theorem ByteR.good : ByteR.Good 1 where
 len := by rintro S w x vs ⟨rfl, _⟩; rfl
 one := by rintro S w x vs ⟨rfl, _⟩ v hv; simp at hv; subst hv; rfl
 keep := by rintro S w w' x vs h hk; exact h
 mono := by rintro S T w x vs h hk; exact h
 bound := by rintro S w x vs h; exact h
abbrev Bytes := SliceOf ByteR 1
theorem Bytes.get {S : Foot} {w : World} {A : Option Addr} {n : Nat} {xs : List Nat} {k : Nat} (h : Bytes S w A n xs) (hk : k < n) :
  ∃ b off x, A = some ⟨b, off, none⟩ ∧ w.cell? ⟨b, off + k, none⟩ = some (.int .u8 ((x : Nat) : Int)) ∧ Hid (xs[k]? = some x) ∧ x < 256 := by
 have hlt : k < xs.length := by rw [h.1]; exact hk
 obtain ⟨b, off, vs, hA, _, _, ⟨rfl, hx⟩, hc⟩ := h.2.2 k xs[k] (List.getElem?_eq_getElem hlt)
 exact ⟨b, off, xs[k], hA, by simpa using hc 0 _ rfl, List.getElem?_eq_getElem hlt, hx⟩
theorem Bytes.all {S : Foot} {w : World} {A : Option Addr} {n : Nat} {xs : List Nat} (h : Bytes S w A n xs) : ∀ x ∈ xs, x < 256 := by
 intro x hx
 obtain ⟨k, hk, rfl⟩ := List.getElem_of_mem hx
 obtain ⟨_, _, _, _, _, _, ⟨_, h1⟩, _⟩ := h.2.2 k _ (List.getElem?_eq_getElem hk)
 exact h1
theorem turn_lt {xs : List Nat} (h : ∀ x ∈ xs, x < 256) (k : Nat) : turnL xs k ≤ 255 := by
 unfold turnL
 split
 ·omega
 rename_i hl
 have hlt : k % xs.length < xs.length := Nat.mod_lt _ (by omega)
 rw [getD_of (List.getElem?_eq_getElem hlt)]
 have := h _ (List.getElem_mem hlt)
 omega
theorem turn7_any {S : Foot} {A : Option Addr} {n c : Nat} {xs : List Nat} (k : Nat) (w : World) (h : Bytes S w A n xs) :
  Calls Tryz.prog 42 #[.slice A n c, .int .i64 k] w fun e w' => e = .returned (.int .i64 (turnL xs k)) ∧ w' = w := by
 have hle := h.le
 have Hl := Lib.hid h.len
 by_cases h0 : n = 0
 ·subst h0
  have HR : Hid (turnL xs k = 0) := by rw [Hid, turnL, if_pos Hl.out]
  go_enter Tryz.func42, Tryz.ntmps42
  go_wp2
  go_ret
  exact ⟨ret_int (by rw [HR.out]; rfl), rfl⟩
 obtain ⟨r, hr⟩ : ∃ r, k % n = r := ⟨_, rfl⟩
 have hrn : r < n := by rw [← hr]; exact Nat.mod_lt _ (by omega)
 obtain ⟨b, off, x, rfl, hcell, Hx, hx⟩ := Bytes.get h hrn
 have HR : Hid (turnL xs k = x) := by rw [Hid, turnL, if_neg (by rw [Hl.out]; exact h0), Hl.out, hr, getD_of Hx.out]
 have hmod : ((k : Int)).tmod (n : Int) = (r : Int) := by rw [Int.tmod_eq_emod_of_nonneg (by omega), ← hr]; rfl
 have hnz : ¬ (n : Int) = 0 := by omega
 have hnz2 : ((n : Int) == 0) = false := by simp; omega
 have hrni : (r : Int) < n := by omega
 have hcv : IntKind.i64.wrap (x : Int) = x := by rw [IntKind.wrap_i64]; omega
 clear hr h
 go_enter Tryz.func42, Tryz.ntmps42
 go_wp2
 go_ret
 exact ⟨ret_int (by rw [HR.out]), rfl⟩
def amongC (a z n : Int) : Int := a + n.tmod (z - a + 1)
theorem amongC_bd {a z : Int} {n : Nat} (h : a ≤ z) : a ≤ amongC a z n ∧ amongC a z n ≤ z := by
 unfold amongC
 obtain ⟨d, hd⟩ := Int.eq_ofNat_of_zero_le (show 0 ≤ z - a + 1 by omega)
 rw [Int.tmod_eq_emod_of_nonneg (by omega), hd]
 have e1 : (n : Int) % (d : Int) = ((n % d : Nat) : Int) := rfl
 have e2 : n % d < d := Nat.mod_lt _ (by omega)
 omega
theorem among7_any (a z : Int) (n : Nat) (w : World) (h0 : 0 ≤ a) (h1 : a ≤ z) (h2 : z ≤ 100000) (hn : n ≤ 255) :
  Calls Tryz.prog 41 #[.agg #[.int .i64 a, .int .i64 z], .int .i64 n] w fun e w' => e = .returned (.int .i64 (amongC a z n)) ∧ Below w.heap.size w w' := by
 have hx1 : IntKind.i64.wrap (z - a) = z - a := by rw [IntKind.wrap_i64]; omega
 have hx2 : IntKind.i64.wrap (z - a + 1) = z - a + 1 := by rw [IntKind.wrap_i64]; omega
 have hnz : ¬ z - a + 1 = 0 := by omega
 have hnz2 : (z - a + 1 == 0) = false := by simp; omega
 obtain ⟨r, hr⟩ : ∃ r, (n : Int).tmod (z - a + 1) = r := ⟨_, rfl⟩
 have hrb : 0 ≤ r ∧ r ≤ 255 := by
  obtain ⟨d, hd⟩ := Int.eq_ofNat_of_zero_le (show 0 ≤ z - a + 1 by omega)
  rw [← hr, Int.tmod_eq_emod_of_nonneg (by omega), hd]
  have e1 : (n : Int) % (d : Int) = ((n % d : Nat) : Int) := rfl
  have e2 := Nat.mod_le n d
  omega
 have hx3 : IntKind.i64.wrap r = r := by rw [IntKind.wrap_i64]; omega
 have hx4 : IntKind.i64.wrap (a + r) = a + r := by rw [IntKind.wrap_i64]; omega
 have HR : Hid (amongC a z n = a + r) := by rw [Hid, amongC, hr]
 have hB := bl_alloc (Below.refl w.heap.size w) (.cells #[.int .i64 a, .int .i64 z] 23) (Nat.le_refl _)
 go_enter Tryz.func41, Tryz.ntmps41
 go_wp2_with fail
 go_quiet (fail)
 go_wp2
 go_ret
 exact ⟨ret_int HR.out.symm, bl_drewN hB _⟩
set_option maxHeartbeats 2000000 in
theorem lmade7_any {S : Foot} {T : Option Addr} {n tc m c : Nat} {tw : List (Int × Int)} {k a v : Int} (w : World) (h : Pairs S w T n tw) (hm : tw[m]? = some (a, v)) (h1 : 1 ≤ a ∧ a ≤ 20000) (h2 : 0 ≤ v ∧ v ≤ 20) (h3 : c ≤ 8) (h4 : 0 ≤ k ∧ k ≤ 100) :
  Calls Tryz.prog 11 #[.agg #[.int .i64 k, .slice T n tc], .agg #[.int .i64 m, .int .i64 c]] w fun e w' => e = .returned (.int .i64 (made7 a v c k)) ∧ Below w.heap.size w w' := by
 have hle := h.le
 have hmn : m < n := by rw [← h.len]; exact of_getq hm
 have hmi : (m : Int) < n := by omega
 obtain ⟨q1, q2, q3, q4, q5, q6⟩ := made7_bd (c := (c : Int)) h1 h2 (by omega) h4
 obtain ⟨W, hW⟩ : ∃ W, (w.alloc (.cells #[.int .i64 k, .slice T n tc] 43)).alloc (.cells #[.int .i64 m, .int .i64 c] 49) = W := ⟨_, rfl⟩
 have X : Blk W w.heap.size 43 #[.int .i64 k, .slice T n tc] := by rw [← hW]; exact (Blk.new _ _ _ rfl).alloc _
 have Y : Blk W (w.heap.size + 1) 49 #[.int .i64 m, .int .i64 c] := by rw [← hW]; exact Blk.new _ _ _ (by simp)
 have hBW : Below w.heap.size w W := by rw [← hW]; exact bl_alloc (bl_alloc (Below.refl _ _) _ (Nat.le_refl _)) _ (Nat.le_refl _)
 obtain ⟨b, off, a', v', rfl, hb, hc0, hc1, Ha⟩ := Pairs.get (h.keep PairR.good (Keeps.below hBW)) hmn
 obtain ⟨rfl, rfl⟩ : a' = a ∧ v' = v := by
  have := Ha.out; rw [hm] at this
  injection this with this; injection this with e1 e2; exact ⟨e1.symm, e2.symm⟩
 have x0 := X.cell 0
 have x1 := X.cell 1
 have y0 := Y.cell 0
 have y1 := Y.cell 1
 clear X Y h hb hm Ha
 go_enter Tryz.func11, Tryz.ntmps11
 go_wp2_with fail
 clear hW
 go_loopw [5, 6] (fun nv i wr => ∃ (j : Nat), j ≤ c ∧ i = .int .i64 j ∧ nv = .int .i64 (a' + v' * j) ∧ wr = W) (fun _ i _ => c - (intOf i).toNat)
 case atStart => exact ⟨0, Nat.zero_le _, rfl, by simp, rfl⟩
 case round =>
  obtain ⟨j, hj, rfl, rfl, rfl⟩ := hrel
  have hvj : 0 ≤ v' * (j : Int) := Int.mul_nonneg h2.1 (by omega)
  have hvj2 : v' * (j : Int) ≤ 20 * 8 := Int.mul_le_mul h2.2 (by omega) (by omega) (by decide)
  by_cases hlt : j < c
  ·have hji : (j : Int) < c := by omega
   obtain ⟨x, hx⟩ : ∃ x, v' * (j : Int) = x := ⟨_, rfl⟩
   have hxs : v' * ((j + 1 : Nat) : Int) = x + v' := by rw [← hx, Int.natCast_add, Int.mul_add]; simp
   have hw1 : IntKind.i64.wrap (a' + x + v') = a' + (x + v') := by rw [IntKind.wrap_i64]; omega
   rw [hx]
   have HXS := Lib.hid hxs
   have HXX := Lib.hid hx
   rw [hx] at hvj hvj2
   clear hx hxs
   go_wp2_with fail
   go_roundw
   case rel => exact ⟨j + 1, by omega, by go_num, by rw [HXS.out], trivial⟩
   case measure => simp [intOf]; omega
  obtain rfl : j = c := by omega
  have hji : ¬ (j : Int) < j := by omega
  have HM : Hid (made7 a' v' j k = (a' + v' * j) - ((a' + v' * j) * k).tdiv 1000) := rfl
  obtain ⟨nn, hnn⟩ : ∃ nn, a' + v' * (j : Int) = nn := ⟨_, rfl⟩
  rw [hnn] at q3 q4 HM
  rw [hnn]
  have hx3 : IntKind.i64.wrap (nn * k) = nn * k := by rw [IntKind.wrap_i64]; omega
  obtain ⟨d, hd⟩ : ∃ d, (nn * k).tdiv 1000 = d := ⟨_, rfl⟩
  have hd2 : (nn * k) / 1000 = d := by rw [← hd, Int.tdiv_eq_ediv_of_nonneg q3]
  have hx4 : IntKind.i64.wrap ((nn * k).tdiv 1000) = d := by rw [hd, IntKind.wrap_i64]; omega
  have hx5 : IntKind.i64.wrap (nn - d) = nn - d := by rw [IntKind.wrap_i64]; omega
  have HM2 : Hid (made7 a' v' j k = nn - d) := by rw [Hid, HM.out, hd]
  clear hnn q1 q2 q3 q4 q5 q6 hd hd2 h1 h2 h4 hvj hvj2 HM
  go_wp2_with fail
  go_ret
  exact ⟨by rw [HM2.out]; rfl, hBW⟩
open Go.RowKit
theorem turn_any {S : Foot} {A : Option Addr} {n c : Nat} {xs : List Nat} (k : Nat) (w : World) (h : Bytes S w A n xs) :
  Calls Tryz.prog 50 #[.slice A n c, .int .i64 k] w fun e w' => e = .returned (.int .i64 (turnL xs k)) ∧ w' = w := by
 have hle := h.le
 have Hl := Lib.hid h.len
 by_cases h0 : n = 0
 ·subst h0
  have HR : Hid (turnL xs k = 0) := by rw [Hid, turnL, if_pos Hl.out]
  go_enter Tryz.func50, Tryz.ntmps50
  go_wp2
  go_ret
  exact ⟨ret_int (by rw [HR.out]; rfl), rfl⟩
 obtain ⟨r, hr⟩ : ∃ r, k % n = r := ⟨_, rfl⟩
 have hrn : r < n := by rw [← hr]; exact Nat.mod_lt _ (by omega)
 obtain ⟨b, off, x, rfl, hcell, Hx, hx⟩ := Bytes.get h hrn
 have HR : Hid (turnL xs k = x) := by rw [Hid, turnL, if_neg (by rw [Hl.out]; exact h0), Hl.out, hr, getD_of Hx.out]
 have hmod : ((k : Int)).tmod (n : Int) = (r : Int) := by rw [Int.tmod_eq_emod_of_nonneg (by omega), ← hr]; rfl
 have hnz : ¬ (n : Int) = 0 := by omega
 have hnz2 : ((n : Int) == 0) = false := by simp; omega
 have hrni : (r : Int) < n := by omega
 have hcv : IntKind.i64.wrap (x : Int) = x := by rw [IntKind.wrap_i64]; omega
 clear hr h
 go_enter Tryz.func50, Tryz.ntmps50
 go_wp2
 go_ret
 exact ⟨ret_int (by rw [HR.out]), rfl⟩
open Go.RowKit
def amongI (a z n : Int) : Int := a + n.tmod (z - a + 1)
theorem among_any (a z : Int) (n : Nat) (w : World) (h0 : 0 ≤ a) (h1 : a ≤ z) (h2 : z ≤ 100000) (hn : n ≤ 255) :
  Calls Tryz.prog 49 #[.agg #[.int .i64 a, .int .i64 z], .int .i64 n] w fun e w' => e = .returned (.int .i64 (amongI a z n)) ∧ Below w.heap.size w w' := by
 have hx1 : IntKind.i64.wrap (z - a) = z - a := by rw [IntKind.wrap_i64]; omega
 have hx2 : IntKind.i64.wrap (z - a + 1) = z - a + 1 := by rw [IntKind.wrap_i64]; omega
 have hnz : ¬ z - a + 1 = 0 := by omega
 have hnz2 : (z - a + 1 == 0) = false := by simp; omega
 obtain ⟨r, hr⟩ : ∃ r, (n : Int).tmod (z - a + 1) = r := ⟨_, rfl⟩
 have hrb : 0 ≤ r ∧ r ≤ 255 := by
  obtain ⟨d, hd⟩ := Int.eq_ofNat_of_zero_le (show 0 ≤ z - a + 1 by omega)
  rw [← hr, Int.tmod_eq_emod_of_nonneg (by omega), hd]
  have e1 : (n : Int) % (d : Int) = ((n % d : Nat) : Int) := rfl
  have e2 := Nat.mod_le n d
  omega
 have hx3 : IntKind.i64.wrap r = r := by rw [IntKind.wrap_i64]; omega
 have hx4 : IntKind.i64.wrap (a + r) = a + r := by rw [IntKind.wrap_i64]; omega
 have HR : Hid (amongI a z n = a + r) := by rw [Hid, amongI, hr]
 have hB := bl_alloc (Below.refl w.heap.size w) (.cells #[.int .i64 a, .int .i64 z] 23) (Nat.le_refl _)
 go_enter Tryz.func49, Tryz.ntmps49
 go_wp2_with fail
 go_quiet (fail)
 go_wp2
 go_ret
 exact ⟨ret_int HR.out.symm, bl_drewN hB _⟩
open Go.RowKit
def TwoR : Rd (Int × Int) := fun _ _ x vs => vs = [.int .i64 x.1, .int .i64 x.2]
theorem TwoR.good : TwoR.Good 2 where
 len := by rintro S w x vs rfl; rfl
 one := by rintro S w x vs rfl v hv; simp at hv; rcases hv with rfl | rfl <;> rfl
 keep := by rintro S w w' x vs h hk; exact h
 mono := by rintro S T w x vs h hk; exact h
 bound := by rintro S w x vs h; exact h
abbrev TwosAt := SliceOf TwoR 2
theorem TwosAt.get {S : Foot} {w : World} {A : Option Addr} {n k : Nat} {xs : List (Int × Int)} (h : TwosAt S w A n xs) (hk : k < n) :
  ∃ b off a z, A = some ⟨b, off, none⟩ ∧ b < w.heap.size ∧ w.cell? ⟨b, off + k * 2, none⟩ = some (.int .i64 a) ∧ w.cell? ⟨b, off + k * 2 + 1, none⟩ = some (.int .i64 z) ∧ Hid (xs[k]? = some (a, z)) := by
 have hlt : k < xs.length := by rw [h.1]; exact hk
 obtain ⟨b, off, vs, hA, _, hb, rfl, hc⟩ := h.2.2 k xs[k] (List.getElem?_eq_getElem hlt)
 exact ⟨b, off, xs[k].1, xs[k].2, hA, hb, by simpa using hc 0 _ rfl, by simpa using hc 1 _ rfl, List.getElem?_eq_getElem hlt⟩
open Go.RowKit
set_option maxHeartbeats 400000 in
theorem in8_any (n lo hi : Int) (w : World) :
  Calls Tryz.prog 19 #[.int .i64 n, .int .i64 lo, .int .i64 hi] w fun e w' => e = .returned (.bool (inB n lo hi)) ∧ w = w' := by
 go_enter Tryz.func19, Tryz.ntmps19
 go_wp2
 all_goals
  go_ret
  exact ⟨ret_bool (by simp [inB, *]; try omega), rfl⟩
theorem range_cases (a z lo hi : Int) : rangeE ⟨a, z⟩ lo hi = 7 ∨ rangeE ⟨a, z⟩ lo hi = 2 ∨ (rangeE ⟨a, z⟩ lo hi = 0) := by
 unfold rangeE; split
 ·exact .inl rfl
 split
 ·exact .inr (.inl rfl)
 exact .inr (.inr rfl)
theorem range_0 {a z lo hi : Int} (h : rangeE ⟨a, z⟩ lo hi = 0) : lo ≤ a ∧ a ≤ z ∧ z ≤ hi := by
 simp [rangeE, inB] at h; omega
theorem range_2 {a z lo hi : Int} (h : rangeE ⟨a, z⟩ lo hi = 2) : lo ≤ a ∧ a ≤ hi ∧ lo ≤ z ∧ z ≤ hi ∧ z < a := by
 unfold rangeE at h
 dsimp only at h
 split at h
 ·cases h
 rename_i g; simp [inB] at g
 split at h
 ·omega
 cases h
theorem range_7 {a z lo hi : Int} (h : rangeE ⟨a, z⟩ lo hi = 7) : inB a lo hi = false ∨ inB z lo hi = false := by
 unfold rangeE at h
 dsimp only at h
 split at h
 ·rename_i g
  simp only [Bool.or_eq_true, Bool.not_eq_true', Bool.not_eq_true] at g
  exact g
 split at h <;> cases h
def tileS (s : List UInt8) (a z y u : Int) (names : List (List UInt8)) : Int := if fresh s names ≠ 0 then fresh s names else tileN ⟨s, a, z, y, u⟩
theorem tileE_ref {l : List Tile} {k : Nat} {s : List UInt8} {a z y u : Int} (h : l[k]? = some ⟨s, a, z, y, u⟩) : tileE l k = tileS s a z y u ((l.take k).map (·.name)) := by
 unfold tileE; rw [getD_of h]; rfl
theorem tileN_7 {s : List UInt8} {a z y u : Int} (h : rangeE ⟨a, z⟩ 1 20000 = 7 ∨ rangeE ⟨y, u⟩ 0 20 = 7) : tileN ⟨s, a, z, y, u⟩ = 7 := by
 unfold tileN
 rw [if_pos]
 rcases h with h | h
 all_goals rcases range_7 h with h | h <;> simp [h]
theorem tileN_2 {s : List UInt8} {a z y u : Int} (h1 : rangeE ⟨a, z⟩ 1 20000 ≠ 7) (h2 : rangeE ⟨y, u⟩ 0 20 ≠ 7) :
  tileN ⟨s, a, z, y, u⟩ = if z < a ∨ a + 10 < z ∨ u < y ∨ y + 3 < u then 2 else 0 := by
 have h3 : (!inB a 1 20000 || !inB z 1 20000) = false := by
  rcases range_cases a z 1 20000 with h | h | h
  ·exact absurd h h1
  ·have := range_2 h; simp [inB]; omega
  have := range_0 h; simp [inB]; omega
 have h4 : (!inB y 0 20 || !inB u 0 20) = false := by
  rcases range_cases y u 0 20 with h | h | h
  ·exact absurd h h2
  ·have := range_2 h; simp [inB]; omega
  have := range_0 h; simp [inB]; omega
 unfold tileN
 dsimp only
 rw [if_neg (by simp only [h3, Bool.false_or, Bool.or_assoc, h4]; decide)]
 by_cases hc : z < a ∨ a + 10 < z ∨ u < y ∨ y + 3 < u
 ·rw [if_pos hc, if_pos (by simp [inB]; omega)]
 rw [if_neg hc, if_neg (by simp [inB]; omega)]
set_option maxHeartbeats 1000000 in
theorem rtile_any {S : Foot} {A : Option Addr} {n c : Nat} {xs : List (List UInt8)} (s : ByteArray) (a z y u : Int) (w : World) (h : Strs S w A n xs) (hs : s.size ≤ 9223372036854775807) :
    Calls Tryz.prog 20 #[.agg #[.string s, .int .i64 a, .int .i64 z, .int .i64 y, .int .i64 u], .slice A n c] w fun e w' => e = .returned (.int .i64 (tileS s.data.toList a z y u xs)) ∧ Below w.heap.size w w' := by
  obtain ⟨W, hW⟩ : ∃ W, w.alloc (.cells #[.string s, .int .i64 a, .int .i64 z, .int .i64 y, .int .i64 u] 55) = W := ⟨_, rfl⟩
  have X : Blk W w.heap.size 55 #[.string s, .int .i64 a, .int .i64 z, .int .i64 y, .int .i64 u] := by rw [← hW]; exact Blk.new _ _ _ rfl
  have hr : Strs S W A n xs := by rw [← hW]; exact h.keep StrR.good (Keeps.alloc _ _)
  have hBW : Below w.heap.size w W := by rw [← hW]; exact bl_alloc (Below.refl _ _) _ (Nat.le_refl _)
  have hWs : w.heap.size ≤ W.heap.size := hBW.size
  have hWl : w.heap.size < W.heap.size := X.lt
  have HW := Lib.hid hW
  have x0 : W.cell? ⟨w.heap.size, 0, none⟩ = some (.string s) := X.cell 0
  have x1 : W.cell? ⟨w.heap.size, 1, none⟩ = some (.int .i64 a) := X.cell 1
  have x2 : W.cell? ⟨w.heap.size, 2, none⟩ = some (.int .i64 z) := X.cell 2
  have x3 : W.cell? ⟨w.heap.size, 3, none⟩ = some (.int .i64 y) := X.cell 3
  have x4 : W.cell? ⟨w.heap.size, 4, none⟩ = some (.int .i64 u) := X.cell 4
  clear hW h
  go_enter Tryz.func20, Tryz.ntmps20
  go_wp2_with fail
  rw [HW.out]
  refine (fresh_any s _ hr hs).mono ?_
  rintro e w' ⟨rfl, rfl⟩
  by_cases hf : fresh s.data.toList xs = 0
  · have hfb : (fresh s.data.toList xs != 0) = false := by rw [hf]; rfl
    have HE : Hid (tileS s.data.toList a z y u xs = tileN ⟨s.data.toList, a, z, y, u⟩) := by rw [Hid, tileS, if_neg (by simp [hf])]
    clear hf
    go_wp2
    have hx0 := Lib.hid hr
    clear hr
    refine wp_region_list (fun w' => Below W.heap.size W w') (fun w w' => Below w.heap.size w w')
      [isV (.pointer (some ⟨w.heap.size, 1, none⟩)), isV (.agg #[.int .i64 a, .int .i64 z]), isV (.int .i64 (rangeE ⟨a, z⟩ 1 20000)), isV (.pointer (some ⟨w.heap.size, 3, none⟩)), isV (.agg #[.int .i64 y, .int .i64 u]), isV (.int .i64 (rangeE ⟨y, u⟩ 0 20)), isV (.int .i64 (rangeE ⟨a, z⟩ 1 20000))]
      (by kernel_rfl) (by kernel_rfl) (by kernel_rfl) (by simp) (by simp) (Below.refl _ _).drew ?stab ?step ?fin
    case stab => exact StabL.is (StabL.is (StabL.is (StabL.is (StabL.is (StabL.is (StabL.is StabL.nil))))))
    case step =>
      refine StepsL.is ?_ (StepsL.is ?_ (StepsL.is ?_ (StepsL.is ?_ (StepsL.is ?_ (StepsL.is ?_ (StepsL.is ?_ StepsL.nil))))))
      all_goals
        intro vs W' K hC hD hU hK
        simp only [fillA, Act.put, List.setIfInBounds_toArray, List.set_cons_zero, List.set_cons_succ, Nat.zero_add, Nat.reduceAdd] at hK ⊢
        simp [waits, Region.binds] at hD
        try simp only [envOf, List.getD_cons_succ, List.getD_cons_zero, isV] at hD
        try simp only [hD] at hK ⊢
      · go_simp; exact hK _ hC (Below.refl _ _)
      · have k1 := getc hC x1; have k2 := getc hC x2; go_simp; exact hK _ hC (Below.refl _ _)
      · go_simp
        refine (range_any a z 1 20000 _).mono ?_
        rintro e w1 ⟨rfl, b1⟩
        exact hK _ (bl_call hC b1 (Nat.le_refl _)) b1
      · go_simp; exact hK _ hC (Below.refl _ _)
      · have k1 := getc hC x3; have k2 := getc hC x4; go_simp; exact hK _ hC (Below.refl _ _)
      · go_simp
        refine (range_any y u 0 20 _).mono ?_
        rintro e w1 ⟨rfl, b1⟩
        exact hK _ (bl_call hC b1 (Nat.le_refl _)) b1
      · go_simp; exact hK _ hC (Below.refl _ _)
    case fin =>
      intro vs W' hC hE hU
      have e2 := hE 6 (by simp)
      have e5 := hE 5 (by simp)
      simp only [envOf, List.getD_cons_succ, List.getD_cons_zero, isV] at e2 e5
      simp only [fillA, Act.put, List.setIfInBounds_toArray, List.set_cons_zero, List.set_cons_succ, Nat.zero_add, Nat.reduceAdd, e2, e5]
      clear e2 e5 hE hU
      simp [Region.wanted, yielded]
      have y1 := getc hC x1
      have y2 := getc hC x2
      have y3 := getc hC x3
      have y4 := getc hC x4
      clear x0 x1 x2 x3 x4 hx0
      by_cases h7 : rangeE ⟨a, z⟩ 1 20000 = 7 ∨ rangeE ⟨y, u⟩ 0 20 = 7
      · have HF := Lib.hid (tileN_7 (s := s.data.toList) h7)
        rcases h7 with h7 | h7
        all_goals
          rcases range_cases a z 1 20000 with hr1 | hr1 | hr1
          all_goals
            rcases range_cases y u 0 20 with hr2 | hr2 | hr2
            all_goals first
              | (rw [hr1] at h7; exact absurd h7 (by decide))
              | (rw [hr2] at h7; exact absurd h7 (by decide))
              | (rw [hr1, hr2]
                 clear h7 hr1 hr2
                 go_wp2
                 go_ret
                 exact ⟨ret_int (by rw [HE.out, HF.out]), hBW.trans (hC.mono hWs)⟩)
      · have HF := Lib.hid (tileN_2 (s := s.data.toList) (fun h => h7 (.inl h)) (fun h => h7 (.inr h)))
        have hr1 := (range_cases a z 1 20000).resolve_left fun h => h7 (.inl h)
        have hr2 := (range_cases y u 0 20).resolve_left fun h => h7 (.inr h)
        clear h7
        rcases hr1 with hr1 | hr1 <;> rcases hr2 with hr2 | hr2
        · have := range_2 hr1
          have HG := Lib.hid (HF.out.trans (if_pos (by omega)))
          rw [hr1, hr2]
          clear hr1 hr2 this
          go_wp2
          go_ret
          exact ⟨ret_int (by rw [HE.out, HG.out]), hBW.trans (hC.mono hWs)⟩
        · have := range_2 hr1
          have HG := Lib.hid (HF.out.trans (if_pos (by omega)))
          rw [hr1, hr2]
          clear hr1 hr2 this
          go_wp2
          go_ret
          exact ⟨ret_int (by rw [HE.out, HG.out]), hBW.trans (hC.mono hWs)⟩
        · have := range_2 hr2
          have HG := Lib.hid (HF.out.trans (if_pos (by omega)))
          rw [hr1, hr2]
          clear hr1 hr2 this
          go_wp2
          go_ret
          exact ⟨ret_int (by rw [HE.out, HG.out]), hBW.trans (hC.mono hWs)⟩
        · have t1 := range_0 hr1
          have t2 := range_0 hr2
          have hw1 : IntKind.i64.wrap (a + 10) = a + 10 := by rw [IntKind.wrap_i64]; omega
          have hw2 : IntKind.i64.wrap (y + 3) = y + 3 := by rw [IntKind.wrap_i64]; omega
          rw [hr1, hr2]
          have T := Lib.hid (And.intro t1 t2)
          clear hr1 hr2 t1 t2
          by_cases ha : z > a + 10
          · have HG := Lib.hid (HF.out.trans (if_pos (by omega)))
            go_wp2
            go_ret
            exact ⟨ret_int (by rw [HE.out, HG.out]), hBW.trans (hC.mono hWs)⟩
          · by_cases hb : u > y + 3
            · have HG := Lib.hid (HF.out.trans (if_pos (by omega)))
              go_wp2
              go_ret
              exact ⟨ret_int (by rw [HE.out, HG.out]), hBW.trans (hC.mono hWs)⟩
            · have HG := Lib.hid (HF.out.trans (if_neg (by have := T.out; omega)))
              go_wp2
              go_ret
              exact ⟨ret_int (by rw [HE.out, HG.out]), hBW.trans (hC.mono hWs)⟩
  · have hfb : (fresh s.data.toList xs != 0) = true := by simpa using hf
    have HE : Hid (tileS s.data.toList a z y u xs = fresh s.data.toList xs) := by rw [Hid, tileS, if_pos hf]
    clear hf
    go_wp2
    go_ret
    exact ⟨ret_int HE.out.symm, hBW⟩
end Go.Proofs.YtdbfincinjoppaaGreat
