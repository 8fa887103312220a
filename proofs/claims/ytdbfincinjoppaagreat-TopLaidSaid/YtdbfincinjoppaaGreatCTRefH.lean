/- A part of the proof that TopLaid always answers true. -/
import Derived.Test.YtdbfincinjoppaaGreatCTRefB
import Derived.Test.YtdbfincinjoppaaGreatCTWidth
set_option linter.all false
namespace Go.Proofs.YtdbfincinjoppaaGreat
open Go.RowKit
set_option maxRecDepth 100000 in
set_option maxHeartbeats 2000000 in
theorem rtiles_any {S : Foot} {A B T : Option Addr} {n ca m cb k c row : Nat} {h : Hall} {tl : List Int} {v1 v2 v3 : Value} (w : World) (g : HallAt (fun _ => True) w A n B m h) (ht : Ints S w T k tl)
  (hv1 : v1.oneCell' = true) (hv2 : v2.oneCell' = true) (hv3 : v3.oneCell' = true) (hr : row < m) :
  Calls Tryz.prog 14 #[.agg #[v1, v2, v3, .slice A n ca, .slice B m cb], .int .i64 row, .slice T k c] w fun e w' => e = .returned (.int .i64 (tilesE h.tiles.length (h.rows.getD row dRow).places tl)) ∧ Below w.heap.size w w' := by
 obtain ⟨W, hW⟩ : ∃ W, w.alloc (.cells #[v1, v2, v3, .slice A n ca, .slice B m cb] 30) = W := ⟨_, rfl⟩
 obtain ⟨b, off, fr, sw, pl, rfl, hbb, r0, r1, r2, Hx⟩ := RowTs.get g.rs hr
 have X : Blk W w.heap.size 30 #[v1, v2, v3, .slice A n ca, .slice (some ⟨b, off, none⟩) m cb] := by rw [← hW]; exact Blk.new _ _ _ rfl
 have hBW : Below w.heap.size w W := by rw [← hW]; exact bl_alloc (Below.refl _ _) _ (Nat.le_refl _)
 have htW := ht.keep IntR.good (Keeps.below hBW)
 have Hn := Lib.hid g.ts.len
 have Hk := Lib.hid ht.len
 have hln := g.ts.le
 have hlk := ht.le
 have r2 := getc hBW r2
 have x3 : W.cell? ⟨w.heap.size, 3, none⟩ = some (.slice A n ca) := X.cell 3
 have x4 : W.cell? ⟨w.heap.size, 4, none⟩ = some (.slice (some ⟨b, off, none⟩) m cb) := X.cell 4
 have hri : (row : Int) < m := by omega
 have hw1 : IntKind.i64.wrap ((n : Int) - 1) = (n : Int) - 1 := by rw [IntKind.wrap_i64]; omega
 have HP : Hid ((h.rows.getD row dRow).places = pl) := by rw [Hid, getD_of Hx.out]
 have hxl := X.lt
 clear r0 r1 g hbb X
 obtain ⟨E, hE⟩ : ∃ E, tilesE h.tiles.length (h.rows.getD row dRow).places tl = E := ⟨_, rfl⟩
 rw [hE]
 by_cases hpl : (k : Int) = pl
 ·have HN : Hid (E = if tl.any (outB 0 ((n : Int) - 1)) then 4 else if (List.range (tl.length - 1)).any (notAsc tl) then 2 else 0) := by rw [Hid, ← hE, tilesE_n (by rw [HP.out, Hk.out]; exact hpl), Hn.out]
  have hpb : ((k : Int) != pl) = false := by rw [hpl]; simp
  clear hpl hE
  go_enter Tryz.func14, Tryz.ntmps14
  go_wp2_with fail
  clear hW x4 r2 hpb
  go_loopw [7] (fun i wr => ∃ (j r : Nat), j ≤ k ∧ i = .int .i64 j ∧ wr = W.drewN r ∧ Hid ((tl.take j).any (outB 0 ((n : Int) - 1)) = false)) (fun i _ => k - (intOf i).toNat)
  case atStart => exact ⟨0, 0, Nat.zero_le _, rfl, rfl, by simp [Hid]⟩
  case round =>
   obtain ⟨j, r, hj, rfl, rfl, Hz⟩ := hrel
   by_cases hlt : j < k
   ·obtain ⟨bT, oT, x, rfl, hcell, Hxi⟩ := Ints.get htW hlt
    have hji : (j : Int) < k := by omega
    have HS : Hid ((tl.take (j + 1)).any (outB 0 ((n : Int) - 1)) = !inB x 0 ((n : Int) - 1)) := by rw [Hid, take_snoc_get Hxi.out, List.any_append, Hz.out, Bool.false_or, ← outB_inB]; simp
    cases ho : inB x 0 ((n : Int) - 1)
    ·have HR : Hid (E = 4) := by
      rw [Hid, HN.out, if_pos]
      exact List.any_eq_true.2 ⟨x, List.mem_of_getElem? Hxi.out, by rw [outB_inB, ho]; rfl⟩
     go_wp2
     go_quiet ((go_at_call 19; exact (in8_any _ _ _ _).mono fun _ _ h => ⟨h.1, _, h.2.symm⟩))
     go_wp2
     go_ret
     exact ⟨ret_int HR.out.symm, bl_drewN (bl_drewN hBW _) _⟩
    go_wp2
    go_quiet ((go_at_call 19; exact (in8_any _ _ _ _).mono fun _ _ h => ⟨h.1, _, h.2.symm⟩))
    go_wp2
    go_roundw
    case rel => exact ⟨j + 1, r + nq, by omega, by go_num, rfl, by rw [Hid, HS.out, ho]; rfl⟩
    case measure => simp [intOf]; omega
   obtain rfl : j = k := by omega
   have HN2 : Hid (E = if (List.range (j - 1)).any (notAsc tl) then 2 else 0) := by
    rw [Hid, HN.out, if_neg, Hk.out]
    have := Hz.out
    rw [List.take_of_length_le (by rw [Hk.out]; exact Nat.le_refl _)] at this
    rw [this]; decide
   go_wp2
   clear x3
   go_loopw [8] (fun i wr => ∃ (i2 r : Nat), 1 ≤ i2 ∧ i = .int .i64 i2 ∧ wr = W.drewN r ∧ Hid ((List.range (i2 - 1)).any (notAsc tl) = false)) (fun i _ => j - (intOf i).toNat)
   case atStart => exact ⟨1, r, Nat.le_refl _, rfl, rfl, by simp [Hid]⟩
   case round =>
    obtain ⟨i2, r, hi2, rfl, rfl, Hz2⟩ := hrel
    by_cases hlt2 : i2 < j
    ·obtain ⟨d, rfl⟩ : ∃ d, i2 = d + 1 := ⟨i2 - 1, by omega⟩
     obtain ⟨bT, oT, x, hA, hcell, Hxi⟩ := Ints.get htW hlt2
     obtain ⟨bT2, oT2, x2, hA2, hcell2, Hxi2⟩ := Ints.get htW (show d < j by omega)
     subst hA
     obtain ⟨rfl, rfl⟩ : bT = bT2 ∧ oT = oT2 := by simpa using hA2
     have hw2 : ((((d + 1 : Nat) : Int)) - 1) = (d : Int) := by omega
     have hw3 : IntKind.i64.wrap ((((d + 1 : Nat) : Int)) - 1) = (d : Int) := by rw [IntKind.wrap_i64]; omega
     have hdi : (d : Int) < j := by omega
     have hdi2 : (((d + 1 : Nat) : Int)) < j := by omega
     have HV : Hid (notAsc tl d = decide (x ≤ x2)) := by rw [Hid, notAsc, getD_of Hxi.out, getD_of Hxi2.out]
     by_cases hx : x ≤ x2
     ·have HR : Hid (E = 2) := by
       rw [Hid, HN2.out, if_pos]
       exact any_range_yes (j := d) (by omega) (by rw [HV.out]; exact decide_eq_true hx)
      go_wp2
      go_quiet (fail)
      go_wp2
      go_ret
      exact ⟨ret_int HR.out.symm, bl_drewN (bl_drewN hBW _) _⟩
     have HS : Hid ((List.range (d + 1)).any (notAsc tl) = false) := any_range_no (by have := Hz2.out; rwa [Nat.add_sub_cancel] at this) (by rw [HV.out]; exact decide_eq_false hx)
     go_wp2
     go_quiet (fail)
     go_wp2
     go_roundw
     case rel => exact ⟨d + 1 + 1, r + nq, by omega, by go_num, rfl, by rw [Nat.add_sub_cancel]; exact HS⟩
     case measure => simp [intOf]; omega
    have HR : Hid (E = 0) := by
     rw [Hid, HN2.out, if_neg]
     rw [Bool.not_eq_true, ← Bool.not_eq_true]
     intro hh
     obtain ⟨y, hy, hn⟩ := List.any_eq_true.1 hh
     have := any_range_yes (n := i2 - 1) (j := y) (by have := List.mem_range.1 hy; omega) hn
     rw [Hz2.out] at this
     cases this
    go_wp2
    go_ret
    exact ⟨ret_int HR.out.symm, bl_drewN hBW _⟩
 have HN : Hid (E = 3) := by rw [Hid, ← hE]; exact tilesE_long (by rw [HP.out, Hk.out]; exact hpl)
 have hpb : ((k : Int) != pl) = true := by simpa using hpl
 clear hpl hE
 go_enter Tryz.func14, Tryz.ntmps14
 go_wp2
 go_ret
 exact ⟨ret_int HN.out.symm, hBW⟩
end Go.Proofs.YtdbfincinjoppaaGreat
