/- A part of the proof that TopWorn always answers true. -/
import Derived.Test.YtdbfincinjoppabGreatDoorCBackPure
import Derived.Test.YtdbfincinjoppabGreatDoorCBackPure6
set_option linter.all false
namespace Go.Proofs.YtdbfincinjoppabGreatDoor
open Go.RowKit Go.Shelf
set_option maxHeartbeats 1500000 in
set_option maxRecDepth 100000 in
theorem bcheck_any {A B C : Option Addr} {n ca m cb q cc : Nat} {c : Claim} (w : World) (h : ClaimAt (fun _ => True) w A n B m C q c) (hca : n ≤ ca) (hcb : m ≤ cb) :
  Calls Tryz.prog 67 #[.agg #[.slice A n ca, .slice B m cb, .slice C q cc]] w fun e w' => e = .returned (.tuple #[.int .i64 (check c).1, .int .i64 (check c).2.1, .int .i64 (check c).2.2]) ∧ Below w.heap.size w w' := by
 have hle := h.fs.le
 have hlm := h.cs.le
 have hlq := h.ms.le
 have Hn := Lib.hid h.fs.len
 have Hm := Lib.hid h.cs.len
 have Hq := Lib.hid h.ms.len
 obtain ⟨W, hW⟩ : ∃ W, w.alloc (.cells #[.slice A n ca, .slice B m cb, .slice C q cc] 44) = W := ⟨_, rfl⟩
 have hx0 : W.cell? ⟨w.heap.size, 0, none⟩ = some (.slice A n ca) := by rw [← hW]; exact newc rfl rfl
 have hx1 : W.cell? ⟨w.heap.size, 1, none⟩ = some (.slice B m cb) := by rw [← hW]; exact newc rfl rfl
 have hx2 : W.cell? ⟨w.heap.size, 2, none⟩ = some (.slice C q cc) := by rw [← hW]; exact newc rfl rfl
 have hc : ClaimAt (fun _ => True) W A n B m C q c := by rw [← hW]; exact h.keep (Keeps.alloc _ _)
 have hBW : Below w.heap.size w W := by rw [← hW]; exact bl_alloc (Below.refl _ _) _ (Nat.le_refl _)
 have hWs : w.heap.size ≤ W.heap.size := hBW.size
 have HWs : Hid (w.heap.size + 1 = W.heap.size) := by rw [Hid, ← hW]; simp
 have HW := Lib.hid hW
 clear hW h
 by_cases h1 : 1 ≤ n ∧ n ≤ 5
 ·have hin : outB 1 5 (n : Int) = false := by unfold outB; simp; omega
  have Hin := Lib.hid hin
  clear hin
  obtain ⟨h1, h2⟩ := h1
  go_enter Tryz.func67, Tryz.ntmps67
  go_wp2_with fail
  rw [HW.out]
  refine (out1_any _ (by exact newc rfl HWs.out) Hin.out).mono ?_
  rintro e W0 ⟨rfl, hb0⟩
  have hB0 : Below W.heap.size W W0 := bl_call (bl_alloc (Below.refl _ _) _ (Nat.le_refl _)) hb0 (Nat.le_refl _)
  have hy0 := getc hB0 hx0
  have hy1 := getc hB0 hx1
  have hy2 := getc hB0 hx2
  clear hb0
  go_wp2
  clear hy0 hy1 hy2
  go_loopw [5, 6, 19] (fun _ _ i wr => ∃ k : Nat, k ≤ n ∧ i = .int .i64 k ∧ Below W.heap.size W wr ∧ Hid (∀ j, j < k → featE c.feats j = 0)) (fun _ _ i _ => n - (intOf i).toNat)
  case atStart => exact ⟨0, Nat.zero_le _, rfl, hB0, fun j h => by omega⟩
  case round =>
   clear hB0
   obtain ⟨k, hk, rfl, hB, Hz⟩ := hrel
   have hcr := hc.keep (Keeps.below hB)
   by_cases hlt : k < n
   ·obtain ⟨b, off, s, a, z, rfl, hbb, hc0, hc1, hc2, hs, Hx⟩ := Feats.get hcr.fs hlt
    have HE : Hid (featE c.feats k = _) := featE_back Hx.out
    have HL : Hid (∀ e, e ≠ 0 → featE c.feats k = e → check c = (1, (k : Int), e)) := fun e he h => check_feat (by rw [Hn.out]; omega) (by rw [Hn.out]; exact hlt) Hz.out he h
    have hki : (k : Int) < n := by omega
    have hkc : (k : Int) ≤ ca := by omega
    go_wp2_with fail
    refine (sheetName_any s _ hs).mono ?_
    rintro e w1 ⟨rfl, hb1⟩
    have hF : Blk w1 wr.heap.size 39 #[.string s, .int .i64 a, .int .i64 z] := (Blk.new _ _ _ rfl).bl hb1
    have hB1 : Below W.heap.size W w1 := bl_call (bl_alloc hB _ (Nat.le_refl _)) hb1 (Nat.le_refl _)
    clear hb1 hc0 hc1 hc2 hbb hcr
    cases hnm : isName s.data.toList
    ·have HC := Lib.hid (HL.out 6 (by decide) (by rw [HE.out, hnm]; rfl))
     clear hnm
     go_wp2
     go_ret3
     exact ⟨by rw [HC.out]; rfl, hBW.trans (hB1.mono hWs)⟩
    have hz0 := getc hB1 hx0
    have hf0 := hF.cell 0
    have hcr := (hc.keep (Keeps.below hB1)).fs.take hk
    go_wp2_with fail
    refine (hasF_any s wr.heap.size _ hcr hf0).mono ?_
    rintro e w2 ⟨rfl, hb2⟩
    have hB2 : Below W.heap.size W w2 := bl_call hB1 hb2 (Nat.le_refl _)
    have hF2 := hF.bl hb2
    clear hb2 hcr hz0 hf0 hF
    by_cases hmem : s.data.toList ∈ (c.feats.take k).map (·.name)
    ·have HC := Lib.hid (HL.out 5 (by decide) (by rw [HE.out, hnm, if_pos hmem]; rfl))
     rw [decide_eq_true hmem]
     clear hnm hmem
     go_wp2
     go_ret3
     exact ⟨by rw [HC.out]; rfl, hBW.trans (hB2.mono hWs)⟩
    have HE2 : Hid (featE c.feats k = if outB 1 100000 a || outB 0 100 z then 7 else 0) := by rw [Hid, HE.out, hnm, if_neg hmem]; rfl
    rw [decide_eq_false hmem]
    clear hnm hmem HE
    have hf1 := hF2.cell 1
    have hf2 := hF2.cell 2
    cases ho1 : outB 1 100000 a
    ·go_wp2_with fail
     refine (out1_any _ (by exact newc rfl rfl) ho1).mono ?_
     rintro e w3 ⟨rfl, hb3⟩
     have hb3' : Below w2.heap.size w2 w3 := bl_call (bl_alloc (Below.refl _ _) _ (Nat.le_refl _)) hb3 (Nat.le_refl _)
     have hB3 : Below W.heap.size W w3 := bl_call hB2 hb3' (Nat.le_refl _)
     have hF3 := hF2.bl hb3'
     have hg2 := hF3.cell 2
     clear hb3 hb3' hf1 hf2
     cases ho2 : outB 0 100 z
     ·have hzz : Hid (featE c.feats k = 0) := by rw [Hid, HE2.out, ho1, ho2]; rfl
      clear ho1
      go_wp2_with fail
      refine (out1_any _ (by exact newc rfl rfl) ho2).mono ?_
      rintro e w4 ⟨rfl, hb4⟩
      have hB4 : Below W.heap.size W w4 := bl_call (bl_alloc hB3 _ (Nat.le_refl _)) hb4 (Nat.le_refl _)
      clear ho2 hb4 hg2
      go_wp2
      go_roundw
      case rel => exact ⟨k + 1, by omega, by go_num, hB4, upto_succ Hz.out hzz.out⟩
      case measure => simp [intOf]; omega
     have HC := Lib.hid (HL.out 7 (by decide) (by rw [HE2.out, ho1, ho2]; rfl))
     clear ho1
     go_wp2_with fail
     refine (out1_any _ (by exact newc rfl rfl) ho2).mono ?_
     rintro e w4 ⟨rfl, hb4⟩
     have hB4 : Below W.heap.size W w4 := bl_call (bl_alloc hB3 _ (Nat.le_refl _)) hb4 (Nat.le_refl _)
     clear ho2 hb4 hg2
     go_wp2
     go_ret3
     exact ⟨by rw [HC.out]; rfl, hBW.trans (hB4.mono hWs)⟩
    have HC := Lib.hid (HL.out 7 (by decide) (by rw [HE2.out, ho1]; rfl))
    go_wp2_with fail
    refine (out1_any _ (by exact newc rfl rfl) ho1).mono ?_
    rintro e w3 ⟨rfl, hb3⟩
    have hB3 : Below W.heap.size W w3 := bl_call (bl_alloc hB2 _ (Nat.le_refl _)) hb3 (Nat.le_refl _)
    clear ho1 hb3 hf1 hf2
    go_wp2
    go_ret3
    exact ⟨by rw [HC.out]; rfl, hBW.trans (hB3.mono hWs)⟩
   obtain rfl : k = n := by omega
   have hy1 := getc hB hx1
   by_cases h5 : 5 < m
   ·have HC : Hid (check c = (2, 0, 3)) := check_many (by rw [Hn.out]; omega) (by rw [Hn.out]; exact Hz.out) (by rw [Hm.out]; exact h5)
    go_wp2
    go_ret3
    exact ⟨by rw [HC.out]; rfl, hBW.trans (hB.mono hWs)⟩
   have h5i : ¬ (5 : Int) < m := by omega
   go_wp2
   clear h5i hy1 hlt hcr
   go_loopw [7, 8, 58] (fun _ _ i wr' => ∃ j : Nat, j ≤ m ∧ i = .int .i64 j ∧ Below W.heap.size W wr' ∧ Hid (∀ i, i < j → causeAt k c.causes i = 0)) (fun _ _ i _ => m - (intOf i).toNat)
   case atStart => exact ⟨0, Nat.zero_le _, rfl, hB, fun j h => by omega⟩
   case round =>
    clear hB
    obtain ⟨j, hj, rfl, hB, Hz2⟩ := hrel
    have hcr := hc.keep (Keeps.below hB)
    by_cases hlt : j < m
    ·obtain ⟨b, off, s, lo, hi, P, np, cp, per, rfl, hbb, hc0, hc1, hc2, hc3, hs, hper, Hx⟩ := Causes.get hcr.cs hlt
     have HE : Hid (causeAt k c.causes j = _) := causeAt_back Hx.out
     have HL : Hid (∀ e, e ≠ 0 → causeAt k c.causes j = e → check c = (2, (j : Int), e)) := fun e he h => check_cause (by rw [Hn.out]; omega) (by rw [Hn.out]; exact Hz.out) (by rw [Hm.out]; exact h5) (by rw [Hm.out]; exact hlt) (by rw [Hn.out]; exact Hz2.out) he (by rw [Hn.out]; exact h)
     have hji : (j : Int) < m := by omega
     have hjc : (j : Int) ≤ cb := by omega
     have hnp := hper.le
     have Hnp := Lib.hid hper.len
     go_wp2_with fail
     refine (sheetName_any s _ hs).mono ?_
     rintro e w1 ⟨rfl, hb1⟩
     have hF : Blk w1 wr.heap.size 47 #[.string s, .int .i64 lo, .int .i64 hi, .slice P np cp] := (Blk.new _ _ _ rfl).bl hb1
     have hb1' : Below wr.heap.size wr w1 := bl_call (bl_alloc (Below.refl _ _) _ (Nat.le_refl _)) hb1 (Nat.le_refl _)
     have hB1 : Below W.heap.size W w1 := bl_call hB hb1' (Nat.le_refl _)
     have hper1 := hper.keep IntR.good (Keeps.below hb1')
     clear hb1 hb1' hc0 hc1 hc2 hc3 hbb hcr hper
     cases hnm : isName s.data.toList
     ·have HC := Lib.hid (HL.out 6 (by decide) (by rw [HE.out, hnm]; rfl))
      clear hnm
      go_wp2
      go_ret3
      exact ⟨by rw [HC.out]; rfl, hBW.trans (hB1.mono hWs)⟩
     have hz0 := getc hB1 hx1
     have hf0 := hF.cell 0
     have hcr := (hc.keep (Keeps.below hB1)).cs.take hj
     go_wp2_with fail
     refine (hasC_any s wr.heap.size _ hcr hf0).mono ?_
     rintro e w2 ⟨rfl, hb2⟩
     have hB2 : Below W.heap.size W w2 := bl_call hB1 hb2 (Nat.le_refl _)
     have hF2 := hF.bl hb2
     have hper2 := hper1.keep IntR.good (Keeps.below hb2)
     clear hb2 hcr hz0 hf0 hF hper1
     by_cases hmem : s.data.toList ∈ (c.causes.take j).map (·.name)
     ·have HC := Lib.hid (HL.out 5 (by decide) (by rw [HE.out, hnm, if_pos hmem]; rfl))
      rw [decide_eq_true hmem]
      clear hnm hmem
      go_wp2
      go_ret3
      exact ⟨by rw [HC.out]; rfl, hBW.trans (hB2.mono hWs)⟩
     have HE2 : Hid (causeAt k c.causes j = if per.length ≠ k then 3 else if per.any (outB (-20) 20) then 7 else if outB 1 50 lo || outB 1 50 hi then 7 else if outB 0 6 (hi - lo) then 2 else 0) := by rw [Hid, HE.out, hnm, if_neg hmem]; rfl
     rw [decide_eq_false hmem]
     clear hnm hmem HE
     have hf3 := hF2.cell 2
     have hf4 := hF2.cell 1
     have hf2 := hF2.cell 3
     have hz0 := getc hB2 hx0
     by_cases hpl : np = k
     ·have hpb : ((np : Int) != (k : Int)) = false := by simp; omega
      have HE3 : Hid (causeAt k c.causes j = if per.any (outB (-20) 20) then 7 else if outB 1 50 lo || outB 1 50 hi then 7 else if outB 0 6 (hi - lo) then 2 else 0) := by rw [Hid, HE2.out, if_neg (by rw [Hnp.out]; simpa using hpl)]
      clear hpl HE2
      go_wp2_with fail
      refine (outside_any _ _ _ hper2).mono ?_
      rintro e w3 ⟨rfl, hb3⟩
      have hB3 : Below W.heap.size W w3 := bl_call hB2 hb3 (Nat.le_refl _)
      have hF3 := hF2.bl hb3
      clear hb3 hf2 hf3 hf4 hz0 hpb
      cases hp : per.any (outB (-20) 20)
      ·have hg1 := hF3.cell 1
       have hg2 := hF3.cell 2
       cases ho : (outB 1 50 lo || outB 1 50 hi)
       ·have hlo : inB lo 1 50 = true ∧ inB hi 1 50 = true := by rw [outB_inB, outB_inB] at ho; simpa using ho
        have hw1 : IntKind.i64.wrap (hi - lo) = hi - lo := by have h1 := inB_iff.1 hlo.1; have h2 := inB_iff.1 hlo.2; rw [IntKind.wrap_i64]; omega
        clear hlo
        go_wp2_with fail
        refine (out2_any _ (by exact newc rfl rfl) (by exact newc rfl rfl) ho).mono ?_
        rintro e w4 ⟨rfl, hb4⟩
        have hb4' : Below w3.heap.size w3 w4 := bl_call (bl_alloc (Below.refl _ _) _ (Nat.le_refl _)) hb4 (Nat.le_refl _)
        have hB4 : Below W.heap.size W w4 := bl_call hB3 hb4' (Nat.le_refl _)
        have hF4 := hF3.bl hb4'
        have hk1 := hF4.cell 1
        have hk2 := hF4.cell 2
        clear hb4 hb4' hg1 hg2
        cases ho2 : outB 0 6 (hi - lo)
        ·have hzz : Hid (causeAt k c.causes j = 0) := by rw [Hid, HE3.out, hp, ho, ho2]; rfl
         clear hp ho
         go_wp2_with fail
         refine (out1_any _ (by exact newc rfl rfl) ho2).mono ?_
         rintro e w5 ⟨rfl, hb5⟩
         have hB5 : Below W.heap.size W w5 := bl_call (bl_alloc hB4 _ (Nat.le_refl _)) hb5 (Nat.le_refl _)
         clear ho2 hb5 hk1 hk2 hw1
         go_wp2
         go_roundw
         case rel => exact ⟨j + 1, by omega, by go_num, hB5, upto_succ Hz2.out hzz.out⟩
         case measure => simp [intOf]; omega
        have HC := Lib.hid (HL.out 2 (by decide) (by rw [HE3.out, hp, ho, ho2]; rfl))
        clear hp ho
        go_wp2_with fail
        refine (out1_any _ (by exact newc rfl rfl) ho2).mono ?_
        rintro e w5 ⟨rfl, hb5⟩
        have hB5 : Below W.heap.size W w5 := bl_call (bl_alloc hB4 _ (Nat.le_refl _)) hb5 (Nat.le_refl _)
        clear ho2 hb5 hk1 hk2 hw1
        go_wp2
        go_ret3
        exact ⟨by rw [HC.out]; rfl, hBW.trans (hB5.mono hWs)⟩
       have HC := Lib.hid (HL.out 7 (by decide) (by rw [HE3.out, hp, ho]; rfl))
       clear hp
       go_wp2_with fail
       refine (out2_any _ (by exact newc rfl rfl) (by exact newc rfl rfl) ho).mono ?_
       rintro e w4 ⟨rfl, hb4⟩
       have hB4 : Below W.heap.size W w4 := bl_call (bl_alloc hB3 _ (Nat.le_refl _)) hb4 (Nat.le_refl _)
       clear ho hb4 hg1 hg2
       go_wp2
       go_ret3
       exact ⟨by rw [HC.out]; rfl, hBW.trans (hB4.mono hWs)⟩
      have HC := Lib.hid (HL.out 7 (by decide) (by rw [HE3.out, hp]; rfl))
      clear hp
      go_wp2
      go_ret3
      exact ⟨by rw [HC.out]; rfl, hBW.trans (hB3.mono hWs)⟩
     have hpb : ((np : Int) != (k : Int)) = true := by simp; omega
     have HC := Lib.hid (HL.out 3 (by decide) (by rw [HE2.out, if_pos (by rw [Hnp.out]; exact hpl)]))
     clear hpl
     go_wp2
     go_ret3
     exact ⟨by rw [HC.out]; rfl, hBW.trans (hB2.mono hWs)⟩
    obtain rfl : j = m := by omega
    have hy2 := getc hB hx2
    by_cases h8 : 8 < q
    ·have HC : Hid (check c = (3, 0, 3)) := check_manym (by rw [Hn.out]; omega) (by rw [Hn.out]; exact Hz.out) (by rw [Hm.out]; exact h5) (by rw [Hm.out, Hn.out]; exact Hz2.out) (by rw [Hq.out]; exact h8)
     go_wp2
     go_ret3
     exact ⟨by rw [HC.out]; rfl, hBW.trans (hB.mono hWs)⟩
    have h8i : ¬ (8 : Int) < q := by omega
    go_wp2
    clear h8i hy2 hlt hcr
    go_loopw [9, 10, 120] (fun _ _ i wr' => ∃ p : Nat, p ≤ q ∧ i = .int .i64 p ∧ Below W.heap.size W wr' ∧ Hid (∀ i, i < p → measE k c.meas i = 0)) (fun _ _ i _ => q - (intOf i).toNat)
    case atStart => exact ⟨0, Nat.zero_le _, rfl, hB, fun j h => by omega⟩
    case round =>
     clear hB
     obtain ⟨p, hp, rfl, hB, Hz3⟩ := hrel
     have hcr := hc.keep (Keeps.below hB)
     have hy0 := getc hB hx0
     have hl0 : w.heap.size < wr.heap.size := by have := hB.size; rw [← HWs.out] at this; omega
     by_cases hlt : p < q
     ·obtain ⟨b, off, a, z, rfl, hbb, hc0, hc1, Hx⟩ := Meass.get hcr.ms hlt
      have HE : Hid (measE k c.meas p = _) := measE_back Hx.out
      have HL : Hid (∀ e, e ≠ 0 → measE k c.meas p = e → check c = (3, (p : Int), e)) := fun e he h => check_meas (by rw [Hn.out]; omega) (by rw [Hn.out]; exact Hz.out) (by rw [Hm.out]; exact h5) (by rw [Hm.out, Hn.out]; exact Hz2.out) (by rw [Hq.out]; exact h8) (by rw [Hq.out]; exact hlt) (by rw [Hn.out]; exact Hz3.out) he (by rw [Hn.out]; exact h)
      cases h6 : outB 0 ((k : Int) - 1) a
      ·go_wp2_with fail
       refine (out1_any _ (by exact newc rfl (by simp)) h6).mono ?_
       rintro e w1 ⟨rfl, hb1⟩
       have hF : Blk w1 wr.heap.size 49 #[.int .i64 a, .int .i64 z] := ((Blk.new _ _ _ rfl).alloc _).bl hb1
       have hB1 : Below W.heap.size W w1 := bl_call (bl_alloc (bl_alloc hB _ (Nat.le_refl _)) _ (Nat.le_refl _)) hb1 (Nat.le_refl _)
       have hg1 := hF.cell 1
       clear hb1 hc0 hc1 hbb hcr hy0
       cases h7 : outB 0 200000 z
       ·have hzz : Hid (measE k c.meas p = 0) := by rw [Hid, HE.out, h6, h7]; rfl
        clear h6
        go_wp2_with fail
        refine (out1_any _ (by exact newc rfl rfl) h7).mono ?_
        rintro e w2 ⟨rfl, hb2⟩
        have hB2 : Below W.heap.size W w2 := bl_call (bl_alloc hB1 _ (Nat.le_refl _)) hb2 (Nat.le_refl _)
        clear h7 hb2 hg1
        go_wp2
        go_roundw
        case rel => exact ⟨p + 1, by omega, by go_num, hB2, upto_succ Hz3.out hzz.out⟩
        case measure => simp [intOf]; omega
       have HC := Lib.hid (HL.out 7 (by decide) (by rw [HE.out, h6, h7]; rfl))
       clear h6
       go_wp2_with fail
       refine (out1_any _ (by exact newc rfl rfl) h7).mono ?_
       rintro e w2 ⟨rfl, hb2⟩
       have hB2 : Below W.heap.size W w2 := bl_call (bl_alloc hB1 _ (Nat.le_refl _)) hb2 (Nat.le_refl _)
       clear h7 hb2 hg1
       go_wp2
       go_ret3
       exact ⟨by rw [HC.out]; rfl, hBW.trans (hB2.mono hWs)⟩
      have HC := Lib.hid (HL.out 4 (by decide) (by rw [HE.out, h6]; rfl))
      go_wp2_with fail
      refine (out1_any _ (by exact newc rfl (by simp)) h6).mono ?_
      rintro e w1 ⟨rfl, hb1⟩
      have hB1 : Below W.heap.size W w1 := bl_call (bl_alloc (bl_alloc hB _ (Nat.le_refl _)) _ (Nat.le_refl _)) hb1 (Nat.le_refl _)
      clear h6 hb1 hc0 hc1 hbb hcr hy0
      go_wp2
      go_ret3
      exact ⟨by rw [HC.out]; rfl, hBW.trans (hB1.mono hWs)⟩
     obtain rfl : p = q := by omega
     have HC : Hid (check c = (0, 0, 0)) := check_ok (by rw [Hn.out]; omega) (by rw [Hn.out]; exact Hz.out) (by rw [Hm.out]; exact h5) (by rw [Hm.out, Hn.out]; exact Hz2.out) (by rw [Hq.out]; exact h8) (by rw [Hq.out, Hn.out]; exact Hz3.out)
     go_wp2
     go_ret3
     exact ⟨by rw [HC.out]; rfl, hBW.trans (hB.mono hWs)⟩
 have hin : outB 1 5 (n : Int) = true := by unfold outB; simp; omega
 have HC : Hid (check c = (1, 0, 3)) := check_n (by rw [Hn.out]; exact h1)
 have Hin := Lib.hid hin
 clear hin h1
 go_enter Tryz.func67, Tryz.ntmps67
 go_wp2_with fail
 rw [HW.out]
 refine (out1_any _ (by exact newc rfl HWs.out) Hin.out).mono ?_
 rintro e W0 ⟨rfl, hb0⟩
 have hB0 : Below W.heap.size W W0 := bl_call (bl_alloc (Below.refl _ _) _ (Nat.le_refl _)) hb0 (Nat.le_refl _)
 clear hb0
 go_wp2
 go_ret3
 exact ⟨by rw [HC.out]; rfl, hBW.trans (hB0.mono hWs)⟩
open Go.RowKit Go.Shelf
def errI (c : Claim) (i many : Int) : Int := if err c ≠ 0 then err c else if inB i 0 (many - 1) then 0 else 4
set_option maxHeartbeats 1000000 in
theorem check61_any {A B C : Option Addr} {n ca m cb q cc : Nat} {c : Claim} (i many : Int) (w : World) (h : ClaimAt (fun _ => True) w A n B m C q c) (hca : n ≤ ca) (hcb : m ≤ cb) (h1 : 0 ≤ many) (h2 : many ≤ 9223372036854775807) :
  Calls Tryz.prog 36 #[.agg #[.slice A n ca, .slice B m cb, .slice C q cc], .int .i64 i, .int .i64 many] w fun e w' => e = .returned (.int .i64 (errI c i many)) ∧ Below w.heap.size w w' := by
 by_cases he : err c = 0
 ·have hbe : ((check c).2.2 == 0) = true := by simpa [err] using he
  cases ho : outB 0 (many - 1) i
  ·have HR : Hid (errI c i many = (check c).2.2) := by
    rw [outB_inB] at ho
    have : inB i 0 (many - 1) = true := by simpa using ho
    rw [Hid, errI, if_neg (by simp [he]), if_pos this]; exact he.symm
   clear he
   go_enter Tryz.func36, Tryz.ntmps36
   go_wp2_with fail
   refine (bcheck_any _ (h.keep (Keeps.alloc _ _)) hca hcb).mono ?_
   rintro e w1 ⟨rfl, hb1⟩
   have hB1 : Below w.heap.size w w1 := bl_call (bl_alloc (Below.refl _ _) _ (Nat.le_refl _)) hb1 (Nat.le_refl _)
   clear hb1 h
   go_wp2_with fail
   refine (out1_any _ (by exact newc rfl rfl) ho).mono ?_
   rintro e w2 ⟨rfl, hb2⟩
   have hB2 : Below w.heap.size w w2 := bl_call (bl_alloc hB1 _ (Nat.le_refl _)) hb2 (Nat.le_refl _)
   clear hb2 ho
   go_wp2
   go_ret
   exact ⟨by rw [HR.out]; rfl, hB2⟩
  have HR : Hid (errI c i many = 4) := by
   rw [outB_inB] at ho
   have : inB i 0 (many - 1) = false := by simpa using ho
   rw [Hid, errI, if_neg (by simp [he]), this]; rfl
  clear he
  go_enter Tryz.func36, Tryz.ntmps36
  go_wp2_with fail
  refine (bcheck_any _ (h.keep (Keeps.alloc _ _)) hca hcb).mono ?_
  rintro e w1 ⟨rfl, hb1⟩
  have hB1 : Below w.heap.size w w1 := bl_call (bl_alloc (Below.refl _ _) _ (Nat.le_refl _)) hb1 (Nat.le_refl _)
  clear hb1 h
  go_wp2_with fail
  refine (out1_any _ (by exact newc rfl rfl) ho).mono ?_
  rintro e w2 ⟨rfl, hb2⟩
  have hB2 : Below w.heap.size w w2 := bl_call (bl_alloc hB1 _ (Nat.le_refl _)) hb2 (Nat.le_refl _)
  clear hb2 ho
  go_wp2
  go_ret
  exact ⟨by rw [HR.out]; rfl, hB2⟩
 have hbe : ((check c).2.2 == 0) = false := by simpa [err] using he
 have HR : Hid (errI c i many = (check c).2.2) := by rw [Hid, errI, if_pos he]; rfl
 clear he
 go_enter Tryz.func36, Tryz.ntmps36
 go_wp2_with fail
 refine (bcheck_any _ (h.keep (Keeps.alloc _ _)) hca hcb).mono ?_
 rintro e w1 ⟨rfl, hb1⟩
 have hB1 : Below w.heap.size w w1 := bl_call (bl_alloc (Below.refl _ _) _ (Nat.le_refl _)) hb1 (Nat.le_refl _)
 clear hb1 h
 go_wp2
 go_ret
 exact ⟨by rw [HR.out]; rfl, hB1⟩
open Go.RowKit Go.Shelf
theorem bits_or32 : ∀ a, a < 32 → ∀ b, b < 32 → bits BinOp.or .i64 (a : Nat) (b : Nat) = ((a ||| b : Nat) : Int) := by decide +kernel
theorem bits_and32 : ∀ a, a < 32 → ∀ b, b < 32 → bits BinOp.and .i64 (a : Nat) (b : Nat) = ((a &&& b : Nat) : Int) := by decide +kernel
theorem bits_andNot32 : ∀ a, a < 32 → ∀ b, b < 32 → bits BinOp.andNot .i64 (a : Nat) (b : Nat) = ((a - (a &&& b) : Nat) : Int) := by decide +kernel
theorem or_pow : ∀ k, k < 5 → ∀ n, n < 2 ^ k → bits BinOp.or .i64 (n : Nat) ((2 ^ k : Nat) : Int) = ((n + 2 ^ k : Nat) : Int) := by decide +kernel
def sumB (l : List Nat) : Nat := l.foldl (· + ·) 0
theorem sumB_snoc {l : List Nat} {k x : Nat} (h : l[k]? = some x) : sumB (l.take (k + 1)) = sumB (l.take k) + x := by
 unfold sumB; rw [List.take_add_one, h]; simp
theorem set63_any (a0 a1 a2 a3 a4 : Int) (w : World) :
  Calls Tryz.prog 38 #[.agg #[.int .i64 a0, .int .i64 a1, .int .i64 a2, .int .i64 a3, .int .i64 a4]] w fun e w' => e = .returned (.int .i64 (setN [a0, a1, a2, a3, a4])) ∧ Below w.heap.size w w' := by
 have i0 : ∀ w, (Instr.index 98 (.agg #[.int .i64 a0, .int .i64 a1, .int .i64 a2, .int .i64 a3, .int .i64 a4]) (.int .i64 0)).run Tryz.prog w = .ok (.int .i64 a0) w := fun _ => by kernel_rfl
 have i1 : ∀ w, (Instr.index 98 (.agg #[.int .i64 a0, .int .i64 a1, .int .i64 a2, .int .i64 a3, .int .i64 a4]) (.int .i64 1)).run Tryz.prog w = .ok (.int .i64 a1) w := fun _ => by kernel_rfl
 have i2 : ∀ w, (Instr.index 98 (.agg #[.int .i64 a0, .int .i64 a1, .int .i64 a2, .int .i64 a3, .int .i64 a4]) (.int .i64 2)).run Tryz.prog w = .ok (.int .i64 a2) w := fun _ => by kernel_rfl
 have i3 : ∀ w, (Instr.index 98 (.agg #[.int .i64 a0, .int .i64 a1, .int .i64 a2, .int .i64 a3, .int .i64 a4]) (.int .i64 3)).run Tryz.prog w = .ok (.int .i64 a3) w := fun _ => by kernel_rfl
 have i4 : ∀ w, (Instr.index 98 (.agg #[.int .i64 a0, .int .i64 a1, .int .i64 a2, .int .i64 a3, .int .i64 a4]) (.int .i64 4)).run Tryz.prog w = .ok (.int .i64 a4) w := fun _ => by kernel_rfl
 go_enter Tryz.func38, Tryz.ntmps38
 go_wp2
 go_loop [2, 3, 4, 6] (fun s _ _ i => ∃ k : Nat, k ≤ 5 ∧ i = .int .i64 k ∧ ∃ n : Nat, s = .int .i64 n ∧ n < 2 ^ k ∧ Hid (n = sumB ([bitOf a0 0, bitOf a1 1, bitOf a2 2, bitOf a3 3, bitOf a4 4].take k))) (fun _ _ _ i => 5 - (intOf i).toNat)
 case atStart => exact ⟨0, by omega, rfl, 0, rfl, by omega, rfl⟩
 case round =>
  obtain ⟨k, hk, rfl, n, rfl, hn, Hn⟩ := hrel
  rcases k with _ | _ | _ | _ | _ | _ | k
  ·by_cases hp : 0 < a0
   ·have hor : bits BinOp.or .i64 (n : Nat) 1 = ((n + 1 : Nat) : Int) := or_pow 0 (by decide) n hn
    have Hs : Hid (n + 1 = sumB ([bitOf a0 0, bitOf a1 1, bitOf a2 2, bitOf a3 3, bitOf a4 4].take 1)) := by rw [Hid, sumB_snoc (k := 0) (x := bitOf a0 0) rfl, ← Hn.out, bitOf, if_pos hp]
    go_wp2
    exact ⟨⟨1, by omega, rfl, n + 1, by go_num, by simp at hn ⊢; omega, Hs⟩, by decide⟩
   have Hs : Hid (n = sumB ([bitOf a0 0, bitOf a1 1, bitOf a2 2, bitOf a3 3, bitOf a4 4].take 1)) := by rw [Hid, sumB_snoc (k := 0) (x := bitOf a0 0) rfl, ← Hn.out, bitOf, if_neg hp]; rfl
   go_wp2
   exact ⟨⟨1, by omega, rfl, n, rfl, by simp at hn ⊢; omega, Hs⟩, by decide⟩
  ·by_cases hp : 0 < a1
   ·have hor : bits BinOp.or .i64 (n : Nat) 2 = ((n + 2 : Nat) : Int) := or_pow 1 (by decide) n hn
    have Hs : Hid (n + 2 = sumB ([bitOf a0 0, bitOf a1 1, bitOf a2 2, bitOf a3 3, bitOf a4 4].take 2)) := by rw [Hid, sumB_snoc (k := 1) (x := bitOf a1 1) rfl, ← Hn.out, bitOf, if_pos hp]
    go_wp2
    exact ⟨⟨2, by omega, rfl, n + 2, by go_num, by simp at hn ⊢; omega, Hs⟩, by decide⟩
   have Hs : Hid (n = sumB ([bitOf a0 0, bitOf a1 1, bitOf a2 2, bitOf a3 3, bitOf a4 4].take 2)) := by rw [Hid, sumB_snoc (k := 1) (x := bitOf a1 1) rfl, ← Hn.out, bitOf, if_neg hp]; rfl
   go_wp2
   exact ⟨⟨2, by omega, rfl, n, rfl, by simp at hn ⊢; omega, Hs⟩, by decide⟩
  ·by_cases hp : 0 < a2
   ·have hor : bits BinOp.or .i64 (n : Nat) 4 = ((n + 4 : Nat) : Int) := or_pow 2 (by decide) n hn
    have Hs : Hid (n + 4 = sumB ([bitOf a0 0, bitOf a1 1, bitOf a2 2, bitOf a3 3, bitOf a4 4].take 3)) := by rw [Hid, sumB_snoc (k := 2) (x := bitOf a2 2) rfl, ← Hn.out, bitOf, if_pos hp]
    go_wp2
    exact ⟨⟨3, by omega, rfl, n + 4, by go_num, by simp at hn ⊢; omega, Hs⟩, by decide⟩
   have Hs : Hid (n = sumB ([bitOf a0 0, bitOf a1 1, bitOf a2 2, bitOf a3 3, bitOf a4 4].take 3)) := by rw [Hid, sumB_snoc (k := 2) (x := bitOf a2 2) rfl, ← Hn.out, bitOf, if_neg hp]; rfl
   go_wp2
   exact ⟨⟨3, by omega, rfl, n, rfl, by simp at hn ⊢; omega, Hs⟩, by decide⟩
  ·by_cases hp : 0 < a3
   ·have hor : bits BinOp.or .i64 (n : Nat) 8 = ((n + 8 : Nat) : Int) := or_pow 3 (by decide) n hn
    have Hs : Hid (n + 8 = sumB ([bitOf a0 0, bitOf a1 1, bitOf a2 2, bitOf a3 3, bitOf a4 4].take 4)) := by rw [Hid, sumB_snoc (k := 3) (x := bitOf a3 3) rfl, ← Hn.out, bitOf, if_pos hp]
    go_wp2
    exact ⟨⟨4, by omega, rfl, n + 8, by go_num, by simp at hn ⊢; omega, Hs⟩, by decide⟩
   have Hs : Hid (n = sumB ([bitOf a0 0, bitOf a1 1, bitOf a2 2, bitOf a3 3, bitOf a4 4].take 4)) := by rw [Hid, sumB_snoc (k := 3) (x := bitOf a3 3) rfl, ← Hn.out, bitOf, if_neg hp]; rfl
   go_wp2
   exact ⟨⟨4, by omega, rfl, n, rfl, by simp at hn ⊢; omega, Hs⟩, by decide⟩
  ·by_cases hp : 0 < a4
   ·have hor : bits BinOp.or .i64 (n : Nat) 16 = ((n + 16 : Nat) : Int) := or_pow 4 (by decide) n hn
    have Hs : Hid (n + 16 = sumB ([bitOf a0 0, bitOf a1 1, bitOf a2 2, bitOf a3 3, bitOf a4 4].take 5)) := by rw [Hid, sumB_snoc (k := 4) (x := bitOf a4 4) rfl, ← Hn.out, bitOf, if_pos hp]
    go_wp2
    exact ⟨⟨5, by omega, rfl, n + 16, by go_num, by simp at hn ⊢; omega, Hs⟩, by decide⟩
   have Hs : Hid (n = sumB ([bitOf a0 0, bitOf a1 1, bitOf a2 2, bitOf a3 3, bitOf a4 4].take 5)) := by rw [Hid, sumB_snoc (k := 4) (x := bitOf a4 4) rfl, ← Hn.out, bitOf, if_neg hp]; rfl
   go_wp2
   exact ⟨⟨5, by omega, rfl, n, rfl, by simp at hn ⊢; omega, Hs⟩, by decide⟩
  ·go_wp2
   go_ret
   refine ⟨ret_int ?_, bl_alloc (Below.refl _ _) _ (Nat.le_refl _)⟩
   rw [Hn.out]; simp [sumB, setN]
  omega
structure TabOk (w : World) : Prop where
 c0 : w.cell? ⟨1, 0, none⟩ = some (.int .u8 0)
 c1 : w.cell? ⟨1, 1, none⟩ = some (.int .u8 1)
 c3 : w.cell? ⟨1, 3, none⟩ = some (.int .u8 2)
 c7 : w.cell? ⟨1, 7, none⟩ = some (.int .u8 3)
 c15 : w.cell? ⟨1, 15, none⟩ = some (.int .u8 4)
theorem TabOk.below {w w' : World} {B : Nat} (h : TabOk w) (hb : Below B w w') (hB : 2 ≤ B) : TabOk w' :=
 ⟨(hb.cell (p := ⟨1, 0, none⟩) (by simp; omega)).trans h.c0, (hb.cell (p := ⟨1, 1, none⟩) (by simp; omega)).trans h.c1, (hb.cell (p := ⟨1, 3, none⟩) (by simp; omega)).trans h.c3, (hb.cell (p := ⟨1, 7, none⟩) (by simp; omega)).trans h.c7, (hb.cell (p := ⟨1, 15, none⟩) (by simp; omega)).trans h.c15⟩
theorem TabOk.lt {w : World} (h : TabOk w) : 1 < w.heap.size := World.block_lt_of_cell? w _ h.c0
theorem TabOk.bl {w w' : World} (h : TabOk w) (hb : Below w.heap.size w w') : TabOk w' := h.below hb h.lt
def tzN (x : Nat) : Nat := if x.testBit 0 then 0 else if x.testBit 1 then 1 else if x.testBit 2 then 2 else if x.testBit 3 then 3 else 4
theorem tz_idx : ∀ x, x < 32 → 0 < x → (IntKind.u64.wrap (bits BinOp.and IntKind.u64 (x : Nat) (IntKind.u64.wrap (-(x : Nat))) * 285870213051353865) / 288230376151711744, tzN x) ∈ [((0 : Int), 0), (1, 1), (3, 2), (7, 3), (15, 4)] := by decide +kernel
set_option maxHeartbeats 400000 in
theorem tz64_any (x : Nat) (w : World) (h : TabOk w) (hx : x < 32) (h0 : 0 < x) : Calls Tryz.prog 108 #[.int .u64 x] w fun e w' => e = .returned (.int .i64 (tzN x)) ∧ w = w' := by
 obtain ⟨c0, c1, c3, c7, c15⟩ := h
 have h := tz_idx x hx h0
 have hx0 : ((x : Int) == 0) = false := by simp; omega
 simp only [List.mem_cons, Prod.mk.injEq, List.mem_nil_iff, or_false] at h
 rcases h with ⟨h1, h2⟩ | ⟨h1, h2⟩ | ⟨h1, h2⟩ | ⟨h1, h2⟩ | ⟨h1, h2⟩
 all_goals
  rw [h2]
  clear h2
  go_enter Tryz.func108, Tryz.ntmps108
  go_wp2
  go_ret
  exact ⟨rfl, rfl⟩
theorem tz_any (x : Nat) (w : World) (h : TabOk w) (hx : x < 32) (h0 : 0 < x) : Calls Tryz.prog 70 #[.int .u64 x] w fun e w' => e = .returned (.int .i64 (tzN x)) ∧ w = w' := by
 go_enter Tryz.func70, Tryz.ntmps70
 go_wp2_with (go_at_call 108; refine (tz64_any x _ h hx h0).mono ?_; rintro e w' ⟨rfl, rfl⟩)
 go_ret
 exact ⟨rfl, rfl⟩
open Go.RowKit Go.Shelf
theorem listN_step : ∀ s, s < 32 → 0 < s → listN s = (tzN s : Int) :: listN (s &&& (s - 1)) ∧ s &&& (s - 1) < s := by decide +kernel
theorem listN_len13 : ∀ s, s < 32 → (listN s).length ≤ 5 := by decide +kernel
theorem and_pred : ∀ s, s < 32 → 0 < s → bits BinOp.and .i64 (s : Nat) ((s : Nat) - 1) = ((s &&& (s - 1) : Nat) : Int) := by decide +kernel
set_option maxHeartbeats 1000000 in
theorem list64_any (s : Nat) (w : World) (h : TabOk w) (hs : s < 32) : Calls Tryz.prog 39 #[.int .i64 s] w fun e w' => ∃ A' n' c', e = .returned (.slice A' n' c') ∧ Ints (fun k => w.heap.size ≤ k) w' A' n' (listN s) ∧ Below w.heap.size w w' := by
 obtain ⟨i0, hi0, hz0, hz1, hz2⟩ := info_parts infoInt
 have hlen := listN_len13 s hs
 go_enter Tryz.func39, Tryz.ntmps39
 go_wp2
 go_loopw [0, 2] (fun v l wr => ∃ (s1 k cap : Nat) (A' : Option Addr) (l1 : List Int), v = .int .i64 s1 ∧ s1 < 32 ∧ l = .slice A' k cap ∧ k ≤ 5 ∧ Hid (l1.length = k) ∧ OwnL IntR 1 (fun _ => False) wr w.heap.size 3 (.slice A' k cap) l1 ∧ Below w.heap.size w wr ∧ Hid (l1 ++ listN s1 = listN s)) (fun v _ _ => (intOf v).toNat)
 case atStart => exact ⟨s, 0, 0, none, [], rfl, hs, rfl, by omega, rfl, OwnL.nil _ _ _ _ _ _, Below.refl _ _, rfl⟩
 case round =>
  obtain ⟨s1, k, cap, A', l1, rfl, hs1, rfl, hk, Hl, hO, hB, Hf⟩ := hrel
  by_cases h0 : 0 < s1
  ·have hne : ((s1 : Int) != 0) = true := by simp; omega
   obtain ⟨hst, hlt⟩ := listN_step s1 hs1 h0
   have Hs : Hid ((l1 ++ [(tzN s1 : Int)]) ++ listN (s1 &&& (s1 - 1)) = listN s) := by rw [Hid, ← Hf.out, hst]; simp
   have hk5 : k + 1 ≤ 5 := by
    have := congrArg List.length Hf.out
    rw [List.length_append, hst, List.length_cons, Hl.out] at this
    omega
   have hand := and_pred s1 hs1 h0
   have htab := h.bl hB
   have Hst := Lib.hid hst
   have htz := fun W hW => tz_any s1 W hW hs1 h0
   have HTZ := Lib.hid htz
   clear htz hst Hst
   generalize s1 &&& (s1 - 1) = s2 at hand Hs hlt
   generalize tzN s1 = z at Hs HTZ
   go_wp2_with (first
    | (go_at_call 70; refine (HTZ.out _ htab).mono ?_; rintro e w' ⟨rfl, rfl⟩)
    | (at_builtin; refine wpList_append_n _ rfl (.tmp 9) (.tmp 13) _ rfl IntR.good w.heap.size 3 i0 _ 8 Tryz.underlying45 hi0 hz0 hz1 hz2 rfl (by omega) _ l1 (z : Int) k Hl.out rfl (hO.alloc IntR.good _) ⟨_, 0, none⟩ 1 [.int .i64 z] rfl rfl (news_new rfl rfl) ?c1 ?c2 ?c3 (fun h => h) ?_))
   case c1 => simp only [maxLen]; omega
   case c2 => omega
   case c3 => have := hB.size; simp; omega
   intro A2 cap2 w2 hO2 hg2 _
   have hB2 : Below w.heap.size w w2 := bl_grown (bl_alloc hB _ (Nat.le_refl _)) (hO.alloc IntR.good _) hg2 (Nat.le_refl _) (Nat.le_refl _)
   clear hg2 hO hB htab
   go_wp2
   go_roundw
   case rel => exact ⟨s2, k + 1, cap2, _, _, rfl, by omega, rfl, hk5, by rw [Hid, List.length_append, Hl.out]; rfl, hO2, hB2, Hs⟩
   case measure => simp [intOf]; omega
  obtain rfl : s1 = 0 := by omega
  go_wp2
  go_ret
  have hS := hO.slice (T := fun k => w.heap.size ≤ k) IntR.good rfl (by simp only [maxLen]; omega) (fun _ h => h.elim) (fun _ h _ => h)
  have hl : l1 = listN s := by rw [← Hf.out, show listN 0 = [] from rfl, List.append_nil]
  rw [hl] at hS
  exact ⟨_, _, _, rfl, hS, hB⟩
end Go.Proofs.YtdbfincinjoppabGreatDoor
