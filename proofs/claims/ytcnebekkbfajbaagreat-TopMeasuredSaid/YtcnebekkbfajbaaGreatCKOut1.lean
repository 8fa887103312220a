/- A part of the proof that TopMeasured always answers true. -/
import Derived.Test.YtcnebekkbfajbaaGreatCKLaw1
set_option linter.all false
namespace Go.Proofs.YtcnebekkbfajbaaGreat
open Go.RowKit Go.Shelf
def ByteR : Rd Nat := fun _ _ x vs => vs = [.int .u8 (x : Int)] ∧ x < 256
theorem ByteR.good : ByteR.Good 1 where
 len := by rintro S w x vs ⟨rfl, _⟩; rfl
 one := by rintro S w x vs ⟨rfl, _⟩ v hv; simp at hv; subst hv; rfl
 keep := by rintro S w w' x vs h hk; exact h
 mono := by rintro S T w x vs h hk; exact h
 bound := by rintro S w x vs h; exact h
abbrev Bytes := SliceOf ByteR 1
theorem Bytes.get {S : Foot} {w : World} {A : Option Addr} {n : Nat} {xs : List Nat} {k : Nat} (h : Bytes S w A n xs) (hk : k < n) :
  ∃ b off x, A = some ⟨b, off, none⟩ ∧ w.cell? ⟨b, off + k, none⟩ = some (.int .u8 ((x : Nat) : Int)) ∧ Hid (xs[k]? = some x) ∧ x < 256 := by
 have hlt : k < xs.length := by rw [h.1]; exact hk
 obtain ⟨b, off, vs, hA, _, _, ⟨rfl, hx⟩, hc⟩ := h.2.2 k xs[k] (List.getElem?_eq_getElem hlt)
 exact ⟨b, off, xs[k], hA, by simpa using hc 0 _ rfl, List.getElem?_eq_getElem hlt, hx⟩
theorem Bytes.all {S : Foot} {w : World} {A : Option Addr} {n : Nat} {xs : List Nat} (h : Bytes S w A n xs) : ∀ x ∈ xs, x < 256 := by
 intro x hx
 obtain ⟨k, hk, rfl⟩ := List.getElem_of_mem hx
 obtain ⟨_, _, _, _, _, _, ⟨_, h1⟩, _⟩ := h.2.2 k _ (List.getElem?_eq_getElem hk)
 exact h1
theorem turn_lt {xs : List Nat} (h : ∀ x ∈ xs, x < 256) (k : Nat) : turnL xs k ≤ 255 := by
 unfold turnL
 split
 ·omega
 rename_i hl
 have hlt : k % xs.length < xs.length := Nat.mod_lt _ (by omega)
 rw [getD_of (List.getElem?_eq_getElem hlt)]
 have := h _ (List.getElem_mem hlt)
 omega
theorem turn7_any {S : Foot} {A : Option Addr} {n c : Nat} {xs : List Nat} (k : Nat) (w : World) (h : Bytes S w A n xs) :
  Calls Tryz.prog 48 #[.slice A n c, .int .i64 k] w fun e w' => e = .returned (.int .i64 (turnL xs k)) ∧ w' = w := by
 have hle := h.le
 have Hl := Lib.hid h.len
 by_cases h0 : n = 0
 ·subst h0
  have HR : Hid (turnL xs k = 0) := by rw [Hid, turnL, if_pos Hl.out]
  go_enter Tryz.func48, Tryz.ntmps48
  go_wp2
  go_ret
  exact ⟨ret_int (by rw [HR.out]; rfl), rfl⟩
 obtain ⟨r, hr⟩ : ∃ r, k % n = r := ⟨_, rfl⟩
 have hrn : r < n := by rw [← hr]; exact Nat.mod_lt _ (by omega)
 obtain ⟨b, off, x, rfl, hcell, Hx, hx⟩ := Bytes.get h hrn
 have HR : Hid (turnL xs k = x) := by rw [Hid, turnL, if_neg (by rw [Hl.out]; exact h0), Hl.out, hr, getD_of Hx.out]
 have hmod : ((k : Int)).tmod (n : Int) = (r : Int) := by rw [Int.tmod_eq_emod_of_nonneg (by omega), ← hr]; rfl
 have hnz : ¬ (n : Int) = 0 := by omega
 have hnz2 : ((n : Int) == 0) = false := by simp; omega
 have hrni : (r : Int) < n := by omega
 have hcv : IntKind.i64.wrap (x : Int) = x := by rw [IntKind.wrap_i64]; omega
 clear hr h
 go_enter Tryz.func48, Tryz.ntmps48
 go_wp2
 go_ret
 exact ⟨ret_int (by rw [HR.out]), rfl⟩
def amongC (a z n : Int) : Int := a + n.tmod (z - a + 1)
theorem amongC_bd {a z : Int} {n : Nat} (h : a ≤ z) : a ≤ amongC a z n ∧ amongC a z n ≤ z := by
 unfold amongC
 obtain ⟨d, hd⟩ := Int.eq_ofNat_of_zero_le (show 0 ≤ z - a + 1 by omega)
 rw [Int.tmod_eq_emod_of_nonneg (by omega), hd]
 have e1 : (n : Int) % (d : Int) = ((n % d : Nat) : Int) := rfl
 have e2 : n % d < d := Nat.mod_lt _ (by omega)
 omega
theorem among7_any (a z : Int) (n : Nat) (w : World) (h0 : 0 ≤ a) (h1 : a ≤ z) (h2 : z ≤ 100000) (hn : n ≤ 255) :
  Calls Tryz.prog 47 #[.agg #[.int .i64 a, .int .i64 z], .int .i64 n] w fun e w' => e = .returned (.int .i64 (amongC a z n)) ∧ Below w.heap.size w w' := by
 have hx1 : IntKind.i64.wrap (z - a) = z - a := by rw [IntKind.wrap_i64]; omega
 have hx2 : IntKind.i64.wrap (z - a + 1) = z - a + 1 := by rw [IntKind.wrap_i64]; omega
 have hnz : ¬ z - a + 1 = 0 := by omega
 have hnz2 : (z - a + 1 == 0) = false := by simp; omega
 obtain ⟨r, hr⟩ : ∃ r, (n : Int).tmod (z - a + 1) = r := ⟨_, rfl⟩
 have hrb : 0 ≤ r ∧ r ≤ 255 := by
  obtain ⟨d, hd⟩ := Int.eq_ofNat_of_zero_le (show 0 ≤ z - a + 1 by omega)
  rw [← hr, Int.tmod_eq_emod_of_nonneg (by omega), hd]
  have e1 : (n : Int) % (d : Int) = ((n % d : Nat) : Int) := rfl
  have e2 := Nat.mod_le n d
  omega
 have hx3 : IntKind.i64.wrap r = r := by rw [IntKind.wrap_i64]; omega
 have hx4 : IntKind.i64.wrap (a + r) = a + r := by rw [IntKind.wrap_i64]; omega
 have HR : Hid (amongC a z n = a + r) := by rw [Hid, amongC, hr]
 have hB := bl_alloc (Below.refl w.heap.size w) (.cells #[.int .i64 a, .int .i64 z] 27) (Nat.le_refl _)
 go_enter Tryz.func47, Tryz.ntmps47
 go_wp2_with fail
 go_quiet (fail)
 go_wp2
 go_ret
 exact ⟨ret_int HR.out.symm, bl_drewN hB _⟩
set_option maxHeartbeats 2000000 in
theorem lmade7_any {S : Foot} {T : Option Addr} {n tc m c : Nat} {tw : List (Int × Int)} {k a v : Int} (w : World) (h : Pairs S w T n tw) (hm : tw[m]? = some (a, v)) (h1 : 1 ≤ a ∧ a ≤ 20000) (h2 : 0 ≤ v ∧ v ≤ 20) (h3 : c ≤ 8) (h4 : 0 ≤ k ∧ k ≤ 100) :
  Calls Tryz.prog 16 #[.agg #[.int .i64 k, .slice T n tc], .agg #[.int .i64 m, .int .i64 c]] w fun e w' => e = .returned (.int .i64 (made7 a v c k)) ∧ Below w.heap.size w w' := by
 have hle := h.le
 have hmn : m < n := by rw [← h.len]; exact of_getq hm
 have hmi : (m : Int) < n := by omega
 obtain ⟨q1, q2, q3, q4, q5, q6⟩ := made7_bd (c := (c : Int)) h1 h2 (by omega) h4
 obtain ⟨W, hW⟩ : ∃ W, (w.alloc (.cells #[.int .i64 k, .slice T n tc] 51)).alloc (.cells #[.int .i64 m, .int .i64 c] 62) = W := ⟨_, rfl⟩
 have X : Blk W w.heap.size 51 #[.int .i64 k, .slice T n tc] := by rw [← hW]; exact (Blk.new _ _ _ rfl).alloc _
 have Y : Blk W (w.heap.size + 1) 62 #[.int .i64 m, .int .i64 c] := by rw [← hW]; exact Blk.new _ _ _ (by simp)
 have hBW : Below w.heap.size w W := by rw [← hW]; exact bl_alloc (bl_alloc (Below.refl _ _) _ (Nat.le_refl _)) _ (Nat.le_refl _)
 obtain ⟨b, off, a', v', rfl, hb, hc0, hc1, Ha⟩ := Pairs.get (h.keep PairR.good (Keeps.below hBW)) hmn
 obtain ⟨rfl, rfl⟩ : a' = a ∧ v' = v := by
  have := Ha.out; rw [hm] at this
  injection this with this; injection this with e1 e2; exact ⟨e1.symm, e2.symm⟩
 have x0 := X.cell 0
 have x1 := X.cell 1
 have y0 := Y.cell 0
 have y1 := Y.cell 1
 clear X Y h hb hm Ha
 go_enter Tryz.func16, Tryz.ntmps16
 go_wp2_with fail
 clear hW
 go_loopw [5, 6] (fun nv i wr => ∃ (j : Nat), j ≤ c ∧ i = .int .i64 j ∧ nv = .int .i64 (a' + v' * j) ∧ wr = W) (fun _ i _ => c - (intOf i).toNat)
 case atStart => exact ⟨0, Nat.zero_le _, rfl, by simp, rfl⟩
 case round =>
  obtain ⟨j, hj, rfl, rfl, rfl⟩ := hrel
  have hvj : 0 ≤ v' * (j : Int) := Int.mul_nonneg h2.1 (by omega)
  have hvj2 : v' * (j : Int) ≤ 20 * 8 := Int.mul_le_mul h2.2 (by omega) (by omega) (by decide)
  by_cases hlt : j < c
  ·have hji : (j : Int) < c := by omega
   obtain ⟨x, hx⟩ : ∃ x, v' * (j : Int) = x := ⟨_, rfl⟩
   have hxs : v' * ((j + 1 : Nat) : Int) = x + v' := by rw [← hx, Int.natCast_add, Int.mul_add]; simp
   have hw1 : IntKind.i64.wrap (a' + x + v') = a' + (x + v') := by rw [IntKind.wrap_i64]; omega
   rw [hx]
   have HXS := Lib.hid hxs
   have HXX := Lib.hid hx
   rw [hx] at hvj hvj2
   clear hx hxs
   go_wp2_with fail
   go_roundw
   case rel => exact ⟨j + 1, by omega, by go_num, by rw [HXS.out], trivial⟩
   case measure => simp [intOf]; omega
  obtain rfl : j = c := by omega
  have hji : ¬ (j : Int) < j := by omega
  have HM : Hid (made7 a' v' j k = (a' + v' * j) - ((a' + v' * j) * k).tdiv 1000) := rfl
  obtain ⟨nn, hnn⟩ : ∃ nn, a' + v' * (j : Int) = nn := ⟨_, rfl⟩
  rw [hnn] at q3 q4 HM
  rw [hnn]
  have hx3 : IntKind.i64.wrap (nn * k) = nn * k := by rw [IntKind.wrap_i64]; omega
  obtain ⟨d, hd⟩ : ∃ d, (nn * k).tdiv 1000 = d := ⟨_, rfl⟩
  have hd2 : (nn * k) / 1000 = d := by rw [← hd, Int.tdiv_eq_ediv_of_nonneg q3]
  have hx4 : IntKind.i64.wrap ((nn * k).tdiv 1000) = d := by rw [hd, IntKind.wrap_i64]; omega
  have hx5 : IntKind.i64.wrap (nn - d) = nn - d := by rw [IntKind.wrap_i64]; omega
  have HM2 : Hid (made7 a' v' j k = nn - d) := by rw [Hid, HM.out, hd]
  clear hnn q1 q2 q3 q4 q5 q6 hd hd2 h1 h2 h4 hvj hvj2 HM
  go_wp2_with fail
  go_ret
  exact ⟨by rw [HM2.out]; rfl, hBW⟩
open Go.RowKit Go.Shelf
set_option maxHeartbeats 2000000 in
set_option maxRecDepth 100000 in
theorem rthere7_any {A : Option Addr} {n ca : Nat} {s : Shop} {klo khi : Int} (m c : Int) (hok : OkS s) (w : World) (g : Moulds (fun _ => True) w A n s.moulds) :
  Calls Tryz.prog 15 #[.agg #[.int .i64 klo, .int .i64 khi, .slice A n ca], .agg #[.int .i64 m, .int .i64 c]] w fun e w' => e = .returned (.bool (there7 s m c)) ∧ Below w.heap.size w w' := by
 obtain ⟨W, hW⟩ : ∃ W, (w.alloc (.cells #[.int .i64 klo, .int .i64 khi, .slice A n ca] 30)).alloc (.cells #[.int .i64 m, .int .i64 c] 62) = W := ⟨_, rfl⟩
 have X : Blk W w.heap.size 30 #[.int .i64 klo, .int .i64 khi, .slice A n ca] := by rw [← hW]; exact (Blk.new _ _ _ rfl).alloc _
 have Y : Blk W (w.heap.size + 1) 62 #[.int .i64 m, .int .i64 c] := by rw [← hW]; exact Blk.new _ _ _ (by simp)
 have hBW : Below w.heap.size w W := by rw [← hW]; exact bl_alloc (bl_alloc (Below.refl _ _) _ (Nat.le_refl _)) _ (Nat.le_refl _)
 have hc : Moulds (fun _ => True) W A n s.moulds := g.keep MouldR.good (Keeps.below hBW)
 have HNL := Lib.hid g.len
 have hn4 : n ≤ 4 := by have := g.len; have := hok.nm; omega
 have x2 := X.cell 2
 have xl := X.lt
 have y0 := Y.cell 0
 have y1 := Y.cell 1
 have yl := Y.lt
 obtain ⟨b1, hb1⟩ : ∃ b, inB m 0 ((n : Int) - 1) = b := ⟨_, rfl⟩
 have HI1 : Hid (∀ k, Calls Tryz.prog 20 #[.int .i64 m, .int .i64 0, .int .i64 ((n : Int) - 1)] (W.drewN k) fun e w' => e = .returned (.bool b1) ∧ w' = W.drewN k) := fun k => by rw [← hb1]; exact (in7_any _ _ _ _).mono fun e w' hh => ⟨hh.1, hh.2.symm⟩
 have hw1 : IntKind.i64.wrap ((n : Int) - 1) = n - 1 := by rw [IntKind.wrap_i64]; omega
 have HT : Hid (there7 s m c = (b1 && inB c 0 ((s.moulds.getD m.toNat dMould).casts - 1))) := by rw [Hid, there7, HNL.out, hb1]
 have HW := Lib.hid hW
 clear hW g X Y
 cases b1 with
 | false =>
  have HR : Hid (there7 s m c = false) := by rw [Hid, HT.out]; rfl
  clear hb1
  go_enter Tryz.func15, Tryz.ntmps15
  go_wp2_with fail
  rw [HW.out]
  go_quiet ((go_at_call 20; with_reducible refine Calls.quiet_of_same (n := _) (HI1.out _)))
  go_wp2_with fail
  go_ret
  exact ⟨by rw [HR.out]; rfl, bl_drewN hBW _⟩
 | true =>
  have hm : 0 ≤ m ∧ m < n := by simp [inB] at hb1; omega
  obtain ⟨mn, rfl⟩ : ∃ mn : Nat, m = mn := ⟨m.toNat, by omega⟩
  obtain ⟨b, off, sn, a, z, y, u, q, rfl, hbb, hc0, hc1, hc2, hc3, hc4, hc5, hs, Hx⟩ := Moulds.get hc (k := mn) (by omega)
  have hq : 1 ≤ q ∧ q ≤ 8 := by
   have h := castsN_bd hok (m := mn) (by rw [HNL.out]; omega)
   have h3 := h.2.2
   rw [getD_of Hx.out] at h3
   dsimp only at h3
   omega
  have hw2 : IntKind.i64.wrap (q - 1) = q - 1 := by rw [IntKind.wrap_i64]; omega
  obtain ⟨b2, hb2⟩ : ∃ b, inB c 0 (q - 1) = b := ⟨_, rfl⟩
  have HI2 : Hid (∀ k, Calls Tryz.prog 20 #[.int .i64 c, .int .i64 0, .int .i64 (q - 1)] (W.drewN k) fun e w' => e = .returned (.bool b2) ∧ w' = W.drewN k) := fun k => by rw [← hb2]; exact (in7_any _ _ _ _).mono fun e w' hh => ⟨hh.1, hh.2.symm⟩
  have HR : Hid (there7 s (mn : Int) c = b2) := by rw [Hid, HT.out, Int.toNat_natCast, getD_of Hx.out, Bool.true_and]; exact hb2
  have hmi : (mn : Int) < n := by omega
  clear hb1 hb2 hc0 hc1 hc2 hc3 hc4 hm hs
  go_enter Tryz.func15, Tryz.ntmps15
  go_wp2_with fail
  rw [HW.out]
  go_quiet ((go_at_call 20; first | (with_reducible refine Calls.quiet_of_same (n := _) (HI1.out _)) | (with_reducible refine Calls.quiet_of_same (n := _) (HI2.out _))))
  go_wp2_with fail
  go_ret
  exact ⟨by rw [HR.out]; rfl, bl_drewN hBW _⟩
open Go.RowKit Go.Shelf
theorem seenE7_ref {s : Shop} {l : List SeenC} {k : Nat} {a z y u : Int} (h : l[k]? = some ⟨a, z, y, u⟩) : seenE7 s l k = if !there7 s a z then 4 else rangeE ⟨y, u⟩ 0 20000 := by
 unfold seenE7
 rw [getD_of h]
set_option maxHeartbeats 4000000 in
set_option maxRecDepth 100000 in
theorem rseen7_any {A C : Option Addr} {n ca q cc : Nat} {s : Shop} {l : List SeenC} {klo khi : Int} (w : World) (g : Moulds (fun _ => True) w A n s.moulds) (gs : SeenCs (fun _ => True) w C q l) (h1 : s.klo = klo) (h2 : s.khi = khi) :
    Calls Tryz.prog 54 #[.agg #[.int .i64 klo, .int .i64 khi, .slice A n ca], .slice C q cc] w fun e w' => e = .returned (.tuple #[.int .i64 (seen7 s l).1, .int .i64 (seen7 s l).2]) ∧ Below w.heap.size w w' := by
  have hlq := gs.le
  have Hq := Lib.hid gs.len
  obtain ⟨W, hW⟩ : ∃ W, w.alloc (.cells #[.int .i64 klo, .int .i64 khi, .slice A n ca] 30) = W := ⟨_, rfl⟩
  have X : Blk W w.heap.size 30 #[.int .i64 klo, .int .i64 khi, .slice A n ca] := by rw [← hW]; exact Blk.new _ _ _ rfl
  have hBW : Below w.heap.size w W := by rw [← hW]; exact bl_alloc (Below.refl _ _) _ (Nat.le_refl _)
  have hc : Moulds (fun _ => True) W A n s.moulds := g.keep MouldR.good (Keeps.below hBW)
  have hs : SeenCs (fun _ => True) W C q l := gs.keep SeenCR.good (Keeps.below hBW)
  have hWs : w.heap.size ≤ W.heap.size := hBW.size
  have HW := Lib.hid hW
  have HX := Lib.hid X
  have HC0 := Lib.hid hc
  have HS0 := Lib.hid hs
  clear hW g gs X
  go_enter Tryz.func54, Tryz.ntmps54
  go_wp2_with fail
  rw [HW.out]
  refine (rcheck7_any W hc h1 h2).mono ?_
  rintro e W1 ⟨rfl, b1⟩
  clear hc hs
  by_cases he : (check7 s).2.2 = 0
  · have heb : ((check7 s).2.2 == 0) = true := by rw [he]; rfl
    have heb2 : ((check7 s).2.2 != 0) = false := by rw [he]; rfl
    have he' : err7 s = 0 := he
    have HOK := Lib.hid (okS_of he)
    by_cases h6 : 6 < q
    · have HC : Hid (seen7 s l = (0, 3)) := seen7_long he' (by rw [Hq.out]; exact h6)
      have h6i : (6 : Int) < q := by omega
      clear he he'
      go_wp2_with fail
      go_ret2
      exact ⟨by rw [HC.out]; rfl, hBW.trans (b1.mono hWs)⟩
    · have D : Hid (seen7 s l = _) := seen7_n he' (by rw [Hq.out]; exact h6)
      have h6i : ¬ (6 : Int) < q := by omega
      clear he he'
      go_wp2_with fail
      clear h6i heb heb2
      go_loopw [8, 9] (fun _ i wr => ∃ k : Nat, k ≤ q ∧ i = .int .i64 k ∧ Below W.heap.size W wr ∧ Hid (∀ j, j < k → seenE7 s l j = 0)) (fun _ i _ => q - (intOf i).toNat)
      case atStart => exact ⟨0, Nat.zero_le _, rfl, b1, fun j h => by omega⟩
      case round =>
        clear b1
        obtain ⟨k, hk, rfl, hB, Hz⟩ := hrel
        by_cases hlt : k < q
        · obtain ⟨b, off, a, z, y, u, rfl, hbb, hc0, hc1, hc2, hc3, Hx⟩ := SeenCs.get (HS0.out.keep SeenCR.good (Keeps.below hB)) hlt
          have HE : Hid (seenE7 s l k = _) := seenE7_ref Hx.out
          have HL : Hid (∀ e, e ≠ 0 → seenE7 s l k = e → seen7 s l = ((k : Int), e)) := fun e he hh => by rw [D.out, firstErr_some (by rw [Hq.out]; exact hlt) Hz.out (by rw [hh]; exact he), hh]
          have hki : (k : Int) < q := by omega
          obtain ⟨tb, htb⟩ : ∃ tb, there7 s a z = tb := ⟨_, rfl⟩
          have HTB := Lib.hid htb
          clear htb
          have kk : Hid (∀ V : World, Below wr.heap.size wr V → V.cell? ⟨w.heap.size, 0, none⟩ = some (.int .i64 klo) ∧ V.cell? ⟨w.heap.size, 1, none⟩ = some (.int .i64 khi) ∧ V.cell? ⟨w.heap.size, 2, none⟩ = some (.slice A n ca) ∧ V.cell? ⟨b, off + k * 4, none⟩ = some (.int .i64 a) ∧ V.cell? ⟨b, off + k * 4 + 1, none⟩ = some (.int .i64 z) ∧ V.cell? ⟨b, off + k * 4 + 2, none⟩ = some (.int .i64 y) ∧ V.cell? ⟨b, off + k * 4 + 3, none⟩ = some (.int .i64 u)) := fun V hV => by
            have hx := HX.out.bl (bl_call hB hV (Nat.le_refl _))
            exact ⟨hx.cell 0, hx.cell 1, hx.cell 2, getc hV hc0, getc hV hc1, getc hV hc2, getc hV hc3⟩
          have HCM : Hid (∀ V : World, Below wr.heap.size wr V → Moulds (fun _ => True) V A n s.moulds) := fun V hV => HC0.out.keep MouldR.good (Keeps.below (bl_call hB hV (Nat.le_refl _)))
          have HB := Lib.hid hB
          clear hc0 hc1 hc2 hc3 hB
          go_wp2_with fail
          refine wp_region_list (fun V => Below wr.heap.size wr V) (fun _ _ => True)
            [isV (.agg #[.int .i64 klo, .int .i64 khi, .slice A n ca]), isV (.slice (some ⟨b, off, none⟩) q cc), isV (.int .i64 (k : Int)), isV (.pointer (some ⟨b, off + k * 4, none⟩)), isV (.pointer (some ⟨b, off + k * 4, none⟩)), isV (.int .i64 a), isV (.slice (some ⟨b, off, none⟩) q cc), isV (.int .i64 (k : Int)), isV (.pointer (some ⟨b, off + k * 4, none⟩)), isV (.pointer (some ⟨b, off + k * 4 + 1, none⟩)), isV (.int .i64 z), isV (.agg #[.int .i64 a, .int .i64 z]), isV (.bool tb), isV (.bool (!tb))]
            (by kernel_rfl) (by kernel_rfl) (by kernel_rfl) (by simp) (by simp) (Below.refl _ _).drew ?stab ?step ?fin
          case stab => exact (StabL.is (StabL.is (StabL.is (StabL.is (StabL.is (StabL.is (StabL.is (StabL.is (StabL.is (StabL.is (StabL.is (StabL.is (StabL.is (StabL.is StabL.nil))))))))))))))
          case step =>
            refine StepsL.is ?_ (StepsL.is ?_ (StepsL.is ?_ (StepsL.is ?_ (StepsL.is ?_ (StepsL.is ?_ (StepsL.is ?_ (StepsL.is ?_ (StepsL.is ?_ (StepsL.is ?_ (StepsL.is ?_ (StepsL.is ?_ (StepsL.is ?_ (StepsL.is ?_ StepsL.nil)))))))))))))
            all_goals
              intro vs V K hC hD hU hK
              simp only [fillA, Act.put, List.setIfInBounds_toArray, List.set_cons_zero, List.set_cons_succ, Nat.zero_add, Nat.reduceAdd] at hK ⊢
              simp [waits, Region.binds] at hD
              try simp only [envOf, List.getD_cons_succ, List.getD_cons_zero, isV] at hD
              try simp only [hD] at hK ⊢
              obtain ⟨x0, x1, x2, d0, d1, _, _⟩ := kk.out V hC
              have xl := World.block_lt_of_cell? _ _ x0
              dsimp only at xl
              go_simp
              first
              | exact hK _ hC trivial
              | (refine (rthere7_any a z HOK.out V (HCM.out V hC)).mono ?_
                 rintro e w' ⟨rfl, hb⟩
                 rw [HTB.out]
                 exact hK _ (bl_call hC hb (Nat.le_refl _)) trivial)
          case fin =>
            intro vs V hC hE hU
            have e13 := hE 13 (by simp)
            simp only [envOf, List.getD_cons_succ, List.getD_cons_zero, isV] at e13
            simp only [fillA, Act.put, List.setIfInBounds_toArray, List.set_cons_zero, List.set_cons_succ, Nat.zero_add, Nat.reduceAdd, e13]
            obtain ⟨u0, hu0⟩ : ∃ v0, vs 0 = v0 := ⟨_, rfl⟩
            obtain ⟨u1, hu1⟩ : ∃ v0, vs 1 = v0 := ⟨_, rfl⟩
            obtain ⟨u2, hu2⟩ : ∃ v0, vs 2 = v0 := ⟨_, rfl⟩
            obtain ⟨u3, hu3⟩ : ∃ v0, vs 3 = v0 := ⟨_, rfl⟩
            obtain ⟨u4, hu4⟩ : ∃ v0, vs 4 = v0 := ⟨_, rfl⟩
            obtain ⟨u5, hu5⟩ : ∃ v0, vs 5 = v0 := ⟨_, rfl⟩
            obtain ⟨u6, hu6⟩ : ∃ v0, vs 6 = v0 := ⟨_, rfl⟩
            obtain ⟨u7, hu7⟩ : ∃ v0, vs 7 = v0 := ⟨_, rfl⟩
            obtain ⟨u8, hu8⟩ : ∃ v0, vs 8 = v0 := ⟨_, rfl⟩
            obtain ⟨u9, hu9⟩ : ∃ v0, vs 9 = v0 := ⟨_, rfl⟩
            obtain ⟨u10, hu10⟩ : ∃ v0, vs 10 = v0 := ⟨_, rfl⟩
            obtain ⟨u11, hu11⟩ : ∃ v0, vs 11 = v0 := ⟨_, rfl⟩
            obtain ⟨u12, hu12⟩ : ∃ v0, vs 12 = v0 := ⟨_, rfl⟩
            rw [hu0, hu1, hu2, hu3, hu4, hu5, hu6, hu7, hu8, hu9, hu10, hu11, hu12]
            clear hu0 hu1 hu2 hu3 hu4 hu5 hu6 hu7 hu8 hu9 hu10 hu11 hu12 hE hU e13
            obtain ⟨_, _, _, _, _, d2, d3⟩ := kk.out V hC
            have dl := World.block_lt_of_cell? _ _ d2
            dsimp only at dl
            have hBV : Below W.heap.size W V := bl_call HB.out hC (Nat.le_refl _)
            clear hC
            cases tb with
            | false =>
              have HC := Lib.hid (HL.out 4 (by decide) (by rw [HE.out, HTB.out]; rfl))
              go_simp
              go_wp2_with fail
              go_ret2
              exact ⟨by rw [HC.out]; rfl, hBW.trans (hBV.mono hWs)⟩
            | true =>
              have HE2 : Hid (seenE7 s l k = rangeE ⟨y, u⟩ 0 20000) := by rw [Hid, HE.out, HTB.out]; rfl
              go_simp
              go_wp2_with fail
              refine (range_any y u 0 20000 V).mono ?_
              rintro e w1 ⟨rfl, hb1⟩
              have hB1 : Below W.heap.size W w1 := bl_call hBV hb1 (Nat.le_refl _)
              clear hb1 d2 d3 dl hBV
              generalize rangeE ⟨y, u⟩ 0 20000 = r at HE2
              by_cases hr : r = 0
              · have hrb : (r != 0) = false := by rw [hr]; rfl
                have HR := Lib.hid hr
                clear hr
                go_wp2_with fail
                go_roundw
                case rel => exact ⟨k + 1, by omega, by go_num, hB1, upto7 Hz.out (HE2.out.trans HR.out)⟩
                case measure => simp [intOf]; omega
              · have hrb : (r != 0) = true := by simpa using hr
                have HC := Lib.hid (HL.out r hr HE2.out)
                clear hr
                go_wp2_with fail
                go_ret2
                exact ⟨by rw [HC.out]; rfl, hBW.trans (hB1.mono hWs)⟩
        · obtain rfl : k = q := by omega
          have HC : Hid (seen7 s l = (0, 0)) := by rw [Hid, D.out, firstErr_none (by rw [Hq.out]; exact fun j hj => Hz.out j hj)]
          go_wp2_with fail
          go_ret2
          exact ⟨by rw [HC.out]; rfl, hBW.trans (hB.mono hWs)⟩
  · have heb : ((check7 s).2.2 == 0) = false := by simpa using he
    have heb2 : ((check7 s).2.2 != 0) = true := by simpa using he
    have HC : Hid (seen7 s l = (0, (check7 s).2.2)) := seen7_bad he
    clear he
    go_wp2_with fail
    go_ret2
    exact ⟨by rw [HC.out]; rfl, hBW.trans (b1.mono hWs)⟩
open Go.RowKit Go.Shelf
set_option maxHeartbeats 1000000 in
theorem rmade_any {a w k c : Int} (h1 : 1 ≤ a ∧ a ≤ 20000) (h2 : 0 ≤ w ∧ w ≤ 20) (h3 : 0 ≤ c ∧ c ≤ 8) (h4 : 0 ≤ k ∧ k ≤ 100) (W : World) :
  Calls Tryz.prog 136 #[.int .i64 a, .int .i64 w, .int .i64 c, .int .i64 k] W fun e W' => e = .returned (.int .i64 (made7 a w c k)) ∧ W = W' := by
 obtain ⟨q1, q2, q3, q4, q5, q6⟩ := made7_bd h1 h2 h3 h4
 have HM : Hid (made7 a w c k = (a + w * c) - ((a + w * c) * k).tdiv 1000) := rfl
 have hx1 : IntKind.i64.wrap (w * c) = w * c := by rw [IntKind.wrap_i64]; omega
 obtain ⟨n, hn⟩ : ∃ n, a + w * c = n := ⟨_, rfl⟩
 have hx2 : IntKind.i64.wrap (a + w * c) = n := by rw [hn, IntKind.wrap_i64]; omega
 rw [hn] at q3 q4
 have hx3 : IntKind.i64.wrap (n * k) = n * k := by rw [IntKind.wrap_i64]; omega
 obtain ⟨d, hd⟩ : ∃ d, (n * k).tdiv 1000 = d := ⟨_, rfl⟩
 have hd2 : (n * k) / 1000 = d := by rw [← hd, Int.tdiv_eq_ediv_of_nonneg q3]
 have hx4 : IntKind.i64.wrap ((n * k).tdiv 1000) = d := by rw [hd, IntKind.wrap_i64]; omega
 have hx5 : IntKind.i64.wrap (n - d) = n - d := by rw [IntKind.wrap_i64]; omega
 have HM2 : Hid (made7 a w c k = n - d) := by rw [Hid, HM.out, hn, hd]
 clear hn q1 q2 q3 q4 q5 q6 hd hd2 h1 h2 h3 h4
 go_enter Tryz.func136, Tryz.ntmps136
 go_wp2
 go_ret
 exact ⟨by rw [HM2.out]; rfl, rfl⟩
end Go.Proofs.YtcnebekkbfajbaaGreat
