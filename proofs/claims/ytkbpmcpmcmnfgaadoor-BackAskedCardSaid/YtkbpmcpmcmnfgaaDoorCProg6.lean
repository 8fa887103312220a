/- Walks: the program's Check. -/
import Derived.Test.YtkbpmcpmcmnfgaaDoorCFind
set_option linter.unusedVariables false
set_option linter.unusedSimpArgs false
set_option linter.all false
namespace Go.Proofs.YtkbpmcpmcmnfgaaDoor
open Go.RowKit Go.Shelf

set_option maxHeartbeats 1500000 in
set_option maxRecDepth 100000 in
theorem bcheck_any {A B C : Option Addr} {n ca m cb q cc : Nat} {c : Claim} (w : World) (h : ClaimAt (fun _ => True) w A n B m C q c) (hca : n ≤ ca) (hcb : m ≤ cb) :
    Calls Tryd.prog 15 #[.agg #[.slice A n ca, .slice B m cb, .slice C q cc]] w fun e w' => e = .returned (.tuple #[.int .i64 (check c).1, .int .i64 (check c).2.1, .int .i64 (check c).2.2]) ∧ Below w.heap.size w w' := by
  have hle := h.fs.le
  have hlm := h.cs.le
  have hlq := h.ms.le
  have Hn := Lib.hid h.fs.len
  have Hm := Lib.hid h.cs.len
  have Hq := Lib.hid h.ms.len
  obtain ⟨W, hW⟩ : ∃ W, w.alloc (.cells #[.slice A n ca, .slice B m cb, .slice C q cc] 26) = W := ⟨_, rfl⟩
  have hx0 : W.cell? ⟨w.heap.size, 0, none⟩ = some (.slice A n ca) := by rw [← hW]; exact newc rfl rfl
  have hx1 : W.cell? ⟨w.heap.size, 1, none⟩ = some (.slice B m cb) := by rw [← hW]; exact newc rfl rfl
  have hx2 : W.cell? ⟨w.heap.size, 2, none⟩ = some (.slice C q cc) := by rw [← hW]; exact newc rfl rfl
  have hc : ClaimAt (fun _ => True) W A n B m C q c := by rw [← hW]; exact h.keep (Keeps.alloc _ _)
  have hBW : Below w.heap.size w W := by rw [← hW]; exact bl_alloc (Below.refl _ _) _ (Nat.le_refl _)
  have hWs : w.heap.size ≤ W.heap.size := hBW.size
  have HWs : Hid (w.heap.size + 1 = W.heap.size) := by rw [Hid, ← hW]; simp
  have HW := Lib.hid hW
  clear hW h
  by_cases h1 : 1 ≤ n ∧ n ≤ 5
  · have hin : outB 1 5 (n : Int) = false := by unfold outB; simp; omega
    have Hin := Lib.hid hin
    clear hin
    obtain ⟨h1, h2⟩ := h1
    go_enter Tryd.func15, Tryd.ntmps15
    go_wp2_with fail
    rw [HW.out]
    refine (out1_any _ (by exact newc rfl HWs.out) Hin.out).mono ?_
    rintro e W0 ⟨rfl, hb0⟩
    have hB0 : Below W.heap.size W W0 := bl_call (bl_alloc (Below.refl _ _) _ (Nat.le_refl _)) hb0 (Nat.le_refl _)
    have hy0 := getc hB0 hx0
    have hy1 := getc hB0 hx1
    have hy2 := getc hB0 hx2
    clear hb0
    go_wp2
    clear hy0 hy1 hy2
    go_loopw [5, 6, 19] (fun _ _ i wr => ∃ k : Nat, k ≤ n ∧ i = .int .i64 k ∧ Below W.heap.size W wr ∧ Hid (∀ j, j < k → featE c.feats j = 0)) (fun _ _ i _ => n - (intOf i).toNat)
    case atStart => exact ⟨0, Nat.zero_le _, rfl, hB0, fun j h => by omega⟩
    case round =>
      clear hB0
      obtain ⟨k, hk, rfl, hB, Hz⟩ := hrel
      have hcr := hc.keep (Keeps.below hB)
      by_cases hlt : k < n
      · obtain ⟨b, off, s, a, z, rfl, hbb, hc0, hc1, hc2, hs, Hx⟩ := Feats.get hcr.fs hlt
        have HE : Hid (featE c.feats k = _) := featE_back Hx.out
        have HL : Hid (∀ e, e ≠ 0 → featE c.feats k = e → check c = (1, (k : Int), e)) := fun e he h => check_feat (by rw [Hn.out]; omega) (by rw [Hn.out]; exact hlt) Hz.out he h
        have hki : (k : Int) < n := by omega
        have hkc : (k : Int) ≤ ca := by omega
        go_wp2_with fail
        refine (sheetName_any s _ hs).mono ?_
        rintro e w1 ⟨rfl, hb1⟩
        have hF : Blk w1 wr.heap.size 69 #[.string s, .int .i64 a, .int .i64 z] := (Blk.new _ _ _ rfl).bl hb1
        have hB1 : Below W.heap.size W w1 := bl_call (bl_alloc hB _ (Nat.le_refl _)) hb1 (Nat.le_refl _)
        clear hb1 hc0 hc1 hc2 hbb hcr
        cases hnm : isName s.data.toList
        · have HC := Lib.hid (HL.out 6 (by decide) (by rw [HE.out, hnm]; rfl))
          clear hnm
          go_wp2
          go_ret3
          exact ⟨by rw [HC.out]; rfl, hBW.trans (hB1.mono hWs)⟩
        · have hz0 := getc hB1 hx0
          have hf0 := hF.cell 0
          have hcr := (hc.keep (Keeps.below hB1)).fs.take hk
          go_wp2_with fail
          refine (hasF_any s wr.heap.size _ hcr hf0).mono ?_
          rintro e w2 ⟨rfl, hb2⟩
          have hB2 : Below W.heap.size W w2 := bl_call hB1 hb2 (Nat.le_refl _)
          have hF2 := hF.bl hb2
          clear hb2 hcr hz0 hf0 hF
          by_cases hmem : s.data.toList ∈ (c.feats.take k).map (·.name)
          · have HC := Lib.hid (HL.out 5 (by decide) (by rw [HE.out, hnm, if_pos hmem]; rfl))
            rw [decide_eq_true hmem]
            clear hnm hmem
            go_wp2
            go_ret3
            exact ⟨by rw [HC.out]; rfl, hBW.trans (hB2.mono hWs)⟩
          · have HE2 : Hid (featE c.feats k = if outB 1 100000 a || outB 0 100 z then 7 else 0) := by rw [Hid, HE.out, hnm, if_neg hmem]; rfl
            rw [decide_eq_false hmem]
            clear hnm hmem HE
            have hf1 := hF2.cell 1
            have hf2 := hF2.cell 2
            cases ho1 : outB 1 100000 a
            · go_wp2_with fail
              refine (out1_any _ (by exact newc rfl rfl) ho1).mono ?_
              rintro e w3 ⟨rfl, hb3⟩
              have hb3' : Below w2.heap.size w2 w3 := bl_call (bl_alloc (Below.refl _ _) _ (Nat.le_refl _)) hb3 (Nat.le_refl _)
              have hB3 : Below W.heap.size W w3 := bl_call hB2 hb3' (Nat.le_refl _)
              have hF3 := hF2.bl hb3'
              have hg2 := hF3.cell 2
              clear hb3 hb3' hf1 hf2
              cases ho2 : outB 0 100 z
              · have hzz : Hid (featE c.feats k = 0) := by rw [Hid, HE2.out, ho1, ho2]; rfl
                clear ho1
                go_wp2_with fail
                refine (out1_any _ (by exact newc rfl rfl) ho2).mono ?_
                rintro e w4 ⟨rfl, hb4⟩
                have hB4 : Below W.heap.size W w4 := bl_call (bl_alloc hB3 _ (Nat.le_refl _)) hb4 (Nat.le_refl _)
                clear ho2 hb4 hg2
                go_wp2
                go_roundw
                case rel => exact ⟨k + 1, by omega, by go_num, hB4, upto_succ Hz.out hzz.out⟩
                case measure => simp [intOf]; omega
              · have HC := Lib.hid (HL.out 7 (by decide) (by rw [HE2.out, ho1, ho2]; rfl))
                clear ho1
                go_wp2_with fail
                refine (out1_any _ (by exact newc rfl rfl) ho2).mono ?_
                rintro e w4 ⟨rfl, hb4⟩
                have hB4 : Below W.heap.size W w4 := bl_call (bl_alloc hB3 _ (Nat.le_refl _)) hb4 (Nat.le_refl _)
                clear ho2 hb4 hg2
                go_wp2
                go_ret3
                exact ⟨by rw [HC.out]; rfl, hBW.trans (hB4.mono hWs)⟩
            · have HC := Lib.hid (HL.out 7 (by decide) (by rw [HE2.out, ho1]; rfl))
              go_wp2_with fail
              refine (out1_any _ (by exact newc rfl rfl) ho1).mono ?_
              rintro e w3 ⟨rfl, hb3⟩
              have hB3 : Below W.heap.size W w3 := bl_call (bl_alloc hB2 _ (Nat.le_refl _)) hb3 (Nat.le_refl _)
              clear ho1 hb3 hf1 hf2
              go_wp2
              go_ret3
              exact ⟨by rw [HC.out]; rfl, hBW.trans (hB3.mono hWs)⟩
      · obtain rfl : k = n := by omega
        have hy1 := getc hB hx1
        by_cases h5 : 5 < m
        · have HC : Hid (check c = (2, 0, 3)) := check_many (by rw [Hn.out]; omega) (by rw [Hn.out]; exact Hz.out) (by rw [Hm.out]; exact h5)
          go_wp2
          go_ret3
          exact ⟨by rw [HC.out]; rfl, hBW.trans (hB.mono hWs)⟩
        · have h5i : ¬ (5 : Int) < m := by omega
          go_wp2
          clear h5i hy1 hlt hcr
          go_loopw [7, 8, 58] (fun _ _ i wr' => ∃ j : Nat, j ≤ m ∧ i = .int .i64 j ∧ Below W.heap.size W wr' ∧ Hid (∀ i, i < j → causeAt k c.causes i = 0)) (fun _ _ i _ => m - (intOf i).toNat)
          case atStart => exact ⟨0, Nat.zero_le _, rfl, hB, fun j h => by omega⟩
          case round =>
            clear hB
            obtain ⟨j, hj, rfl, hB, Hz2⟩ := hrel
            have hcr := hc.keep (Keeps.below hB)
            by_cases hlt : j < m
            · obtain ⟨b, off, s, lo, hi, P, np, cp, per, rfl, hbb, hc0, hc1, hc2, hc3, hs, hper, Hx⟩ := Causes.get hcr.cs hlt
              have HE : Hid (causeAt k c.causes j = _) := causeAt_back Hx.out
              have HL : Hid (∀ e, e ≠ 0 → causeAt k c.causes j = e → check c = (2, (j : Int), e)) := fun e he h => check_cause (by rw [Hn.out]; omega) (by rw [Hn.out]; exact Hz.out) (by rw [Hm.out]; exact h5) (by rw [Hm.out]; exact hlt) (by rw [Hn.out]; exact Hz2.out) he (by rw [Hn.out]; exact h)
              have hji : (j : Int) < m := by omega
              have hjc : (j : Int) ≤ cb := by omega
              have hnp := hper.le
              have Hnp := Lib.hid hper.len
              go_wp2_with fail
              refine (sheetName_any s _ hs).mono ?_
              rintro e w1 ⟨rfl, hb1⟩
              have hF : Blk w1 wr.heap.size 76 #[.string s, .int .i64 lo, .int .i64 hi, .slice P np cp] := (Blk.new _ _ _ rfl).bl hb1
              have hb1' : Below wr.heap.size wr w1 := bl_call (bl_alloc (Below.refl _ _) _ (Nat.le_refl _)) hb1 (Nat.le_refl _)
              have hB1 : Below W.heap.size W w1 := bl_call hB hb1' (Nat.le_refl _)
              have hper1 := hper.keep IntR.good (Keeps.below hb1')
              clear hb1 hb1' hc0 hc1 hc2 hc3 hbb hcr hper
              cases hnm : isName s.data.toList
              · have HC := Lib.hid (HL.out 6 (by decide) (by rw [HE.out, hnm]; rfl))
                clear hnm
                go_wp2
                go_ret3
                exact ⟨by rw [HC.out]; rfl, hBW.trans (hB1.mono hWs)⟩
              · have hz0 := getc hB1 hx1
                have hf0 := hF.cell 0
                have hcr := (hc.keep (Keeps.below hB1)).cs.take hj
                go_wp2_with fail
                refine (hasC_any s wr.heap.size _ hcr hf0).mono ?_
                rintro e w2 ⟨rfl, hb2⟩
                have hB2 : Below W.heap.size W w2 := bl_call hB1 hb2 (Nat.le_refl _)
                have hF2 := hF.bl hb2
                have hper2 := hper1.keep IntR.good (Keeps.below hb2)
                clear hb2 hcr hz0 hf0 hF hper1
                by_cases hmem : s.data.toList ∈ (c.causes.take j).map (·.name)
                · have HC := Lib.hid (HL.out 5 (by decide) (by rw [HE.out, hnm, if_pos hmem]; rfl))
                  rw [decide_eq_true hmem]
                  clear hnm hmem
                  go_wp2
                  go_ret3
                  exact ⟨by rw [HC.out]; rfl, hBW.trans (hB2.mono hWs)⟩
                · have HE2 : Hid (causeAt k c.causes j = if per.length ≠ k then 3 else if per.any (outB (-20) 20) then 7 else if outB 1 50 lo || outB 1 50 hi then 7 else if outB 0 6 (hi - lo) then 2 else 0) := by rw [Hid, HE.out, hnm, if_neg hmem]; rfl
                  rw [decide_eq_false hmem]
                  clear hnm hmem HE
                  have hf3 := hF2.cell 2
                  have hf4 := hF2.cell 1
                  have hf2 := hF2.cell 3
                  have hz0 := getc hB2 hx0
                  by_cases hpl : np = k
                  · have hpb : ((np : Int) != (k : Int)) = false := by simp; omega
                    have HE3 : Hid (causeAt k c.causes j = if per.any (outB (-20) 20) then 7 else if outB 1 50 lo || outB 1 50 hi then 7 else if outB 0 6 (hi - lo) then 2 else 0) := by rw [Hid, HE2.out, if_neg (by rw [Hnp.out]; simpa using hpl)]
                    clear hpl HE2
                    go_wp2_with fail
                    refine (outside_any _ _ _ hper2).mono ?_
                    rintro e w3 ⟨rfl, hb3⟩
                    have hB3 : Below W.heap.size W w3 := bl_call hB2 hb3 (Nat.le_refl _)
                    have hF3 := hF2.bl hb3
                    clear hb3 hf2 hf3 hf4 hz0 hpb
                    cases hp : per.any (outB (-20) 20)
                    · have hg1 := hF3.cell 1
                      have hg2 := hF3.cell 2
                      cases ho : (outB 1 50 lo || outB 1 50 hi)
                      · have hlo : inB lo 1 50 = true ∧ inB hi 1 50 = true := by rw [outB_inB, outB_inB] at ho; simpa using ho
                        have hw1 : IntKind.i64.wrap (hi - lo) = hi - lo := by have h1 := inB_iff.1 hlo.1; have h2 := inB_iff.1 hlo.2; rw [IntKind.wrap_i64]; omega
                        clear hlo
                        go_wp2_with fail
                        refine (out2_any _ (by exact newc rfl rfl) (by exact newc rfl rfl) ho).mono ?_
                        rintro e w4 ⟨rfl, hb4⟩
                        have hb4' : Below w3.heap.size w3 w4 := bl_call (bl_alloc (Below.refl _ _) _ (Nat.le_refl _)) hb4 (Nat.le_refl _)
                        have hB4 : Below W.heap.size W w4 := bl_call hB3 hb4' (Nat.le_refl _)
                        have hF4 := hF3.bl hb4'
                        have hk1 := hF4.cell 1
                        have hk2 := hF4.cell 2
                        clear hb4 hb4' hg1 hg2
                        cases ho2 : outB 0 6 (hi - lo)
                        · have hzz : Hid (causeAt k c.causes j = 0) := by rw [Hid, HE3.out, hp, ho, ho2]; rfl
                          clear hp ho
                          go_wp2_with fail
                          refine (out1_any _ (by exact newc rfl rfl) ho2).mono ?_
                          rintro e w5 ⟨rfl, hb5⟩
                          have hB5 : Below W.heap.size W w5 := bl_call (bl_alloc hB4 _ (Nat.le_refl _)) hb5 (Nat.le_refl _)
                          clear ho2 hb5 hk1 hk2 hw1
                          go_wp2
                          go_roundw
                          case rel => exact ⟨j + 1, by omega, by go_num, hB5, upto_succ Hz2.out hzz.out⟩
                          case measure => simp [intOf]; omega
                        · have HC := Lib.hid (HL.out 2 (by decide) (by rw [HE3.out, hp, ho, ho2]; rfl))
                          clear hp ho
                          go_wp2_with fail
                          refine (out1_any _ (by exact newc rfl rfl) ho2).mono ?_
                          rintro e w5 ⟨rfl, hb5⟩
                          have hB5 : Below W.heap.size W w5 := bl_call (bl_alloc hB4 _ (Nat.le_refl _)) hb5 (Nat.le_refl _)
                          clear ho2 hb5 hk1 hk2 hw1
                          go_wp2
                          go_ret3
                          exact ⟨by rw [HC.out]; rfl, hBW.trans (hB5.mono hWs)⟩
                      · have HC := Lib.hid (HL.out 7 (by decide) (by rw [HE3.out, hp, ho]; rfl))
                        clear hp
                        go_wp2_with fail
                        refine (out2_any _ (by exact newc rfl rfl) (by exact newc rfl rfl) ho).mono ?_
                        rintro e w4 ⟨rfl, hb4⟩
                        have hB4 : Below W.heap.size W w4 := bl_call (bl_alloc hB3 _ (Nat.le_refl _)) hb4 (Nat.le_refl _)
                        clear ho hb4 hg1 hg2
                        go_wp2
                        go_ret3
                        exact ⟨by rw [HC.out]; rfl, hBW.trans (hB4.mono hWs)⟩
                    · have HC := Lib.hid (HL.out 7 (by decide) (by rw [HE3.out, hp]; rfl))
                      clear hp
                      go_wp2
                      go_ret3
                      exact ⟨by rw [HC.out]; rfl, hBW.trans (hB3.mono hWs)⟩
                  · have hpb : ((np : Int) != (k : Int)) = true := by simp; omega
                    have HC := Lib.hid (HL.out 3 (by decide) (by rw [HE2.out, if_pos (by rw [Hnp.out]; exact hpl)]))
                    clear hpl
                    go_wp2
                    go_ret3
                    exact ⟨by rw [HC.out]; rfl, hBW.trans (hB2.mono hWs)⟩
            · obtain rfl : j = m := by omega
              have hy2 := getc hB hx2
              by_cases h8 : 8 < q
              · have HC : Hid (check c = (3, 0, 3)) := check_manym (by rw [Hn.out]; omega) (by rw [Hn.out]; exact Hz.out) (by rw [Hm.out]; exact h5) (by rw [Hm.out, Hn.out]; exact Hz2.out) (by rw [Hq.out]; exact h8)
                go_wp2
                go_ret3
                exact ⟨by rw [HC.out]; rfl, hBW.trans (hB.mono hWs)⟩
              · have h8i : ¬ (8 : Int) < q := by omega
                go_wp2
                clear h8i hy2 hlt hcr
                go_loopw [9, 10, 120] (fun _ _ i wr' => ∃ p : Nat, p ≤ q ∧ i = .int .i64 p ∧ Below W.heap.size W wr' ∧ Hid (∀ i, i < p → measE k c.meas i = 0)) (fun _ _ i _ => q - (intOf i).toNat)
                case atStart => exact ⟨0, Nat.zero_le _, rfl, hB, fun j h => by omega⟩
                case round =>
                  clear hB
                  obtain ⟨p, hp, rfl, hB, Hz3⟩ := hrel
                  have hcr := hc.keep (Keeps.below hB)
                  have hy0 := getc hB hx0
                  have hl0 : w.heap.size < wr.heap.size := by have := hB.size; rw [← HWs.out] at this; omega
                  by_cases hlt : p < q
                  · obtain ⟨b, off, a, z, rfl, hbb, hc0, hc1, Hx⟩ := Meass.get hcr.ms hlt
                    have HE : Hid (measE k c.meas p = _) := measE_back Hx.out
                    have HL : Hid (∀ e, e ≠ 0 → measE k c.meas p = e → check c = (3, (p : Int), e)) := fun e he h => check_meas (by rw [Hn.out]; omega) (by rw [Hn.out]; exact Hz.out) (by rw [Hm.out]; exact h5) (by rw [Hm.out, Hn.out]; exact Hz2.out) (by rw [Hq.out]; exact h8) (by rw [Hq.out]; exact hlt) (by rw [Hn.out]; exact Hz3.out) he (by rw [Hn.out]; exact h)
                    cases h6 : outB 0 ((k : Int) - 1) a
                    · go_wp2_with fail
                      refine (out1_any _ (by exact newc rfl (by simp)) h6).mono ?_
                      rintro e w1 ⟨rfl, hb1⟩
                      have hF : Blk w1 wr.heap.size 62 #[.int .i64 a, .int .i64 z] := ((Blk.new _ _ _ rfl).alloc _).bl hb1
                      have hB1 : Below W.heap.size W w1 := bl_call (bl_alloc (bl_alloc hB _ (Nat.le_refl _)) _ (Nat.le_refl _)) hb1 (Nat.le_refl _)
                      have hg1 := hF.cell 1
                      clear hb1 hc0 hc1 hbb hcr hy0
                      cases h7 : outB 0 200000 z
                      · have hzz : Hid (measE k c.meas p = 0) := by rw [Hid, HE.out, h6, h7]; rfl
                        clear h6
                        go_wp2_with fail
                        refine (out1_any _ (by exact newc rfl rfl) h7).mono ?_
                        rintro e w2 ⟨rfl, hb2⟩
                        have hB2 : Below W.heap.size W w2 := bl_call (bl_alloc hB1 _ (Nat.le_refl _)) hb2 (Nat.le_refl _)
                        clear h7 hb2 hg1
                        go_wp2
                        go_roundw
                        case rel => exact ⟨p + 1, by omega, by go_num, hB2, upto_succ Hz3.out hzz.out⟩
                        case measure => simp [intOf]; omega
                      · have HC := Lib.hid (HL.out 7 (by decide) (by rw [HE.out, h6, h7]; rfl))
                        clear h6
                        go_wp2_with fail
                        refine (out1_any _ (by exact newc rfl rfl) h7).mono ?_
                        rintro e w2 ⟨rfl, hb2⟩
                        have hB2 : Below W.heap.size W w2 := bl_call (bl_alloc hB1 _ (Nat.le_refl _)) hb2 (Nat.le_refl _)
                        clear h7 hb2 hg1
                        go_wp2
                        go_ret3
                        exact ⟨by rw [HC.out]; rfl, hBW.trans (hB2.mono hWs)⟩
                    · have HC := Lib.hid (HL.out 4 (by decide) (by rw [HE.out, h6]; rfl))
                      go_wp2_with fail
                      refine (out1_any _ (by exact newc rfl (by simp)) h6).mono ?_
                      rintro e w1 ⟨rfl, hb1⟩
                      have hB1 : Below W.heap.size W w1 := bl_call (bl_alloc (bl_alloc hB _ (Nat.le_refl _)) _ (Nat.le_refl _)) hb1 (Nat.le_refl _)
                      clear h6 hb1 hc0 hc1 hbb hcr hy0
                      go_wp2
                      go_ret3
                      exact ⟨by rw [HC.out]; rfl, hBW.trans (hB1.mono hWs)⟩
                  · obtain rfl : p = q := by omega
                    have HC : Hid (check c = (0, 0, 0)) := check_ok (by rw [Hn.out]; omega) (by rw [Hn.out]; exact Hz.out) (by rw [Hm.out]; exact h5) (by rw [Hm.out, Hn.out]; exact Hz2.out) (by rw [Hq.out]; exact h8) (by rw [Hq.out, Hn.out]; exact Hz3.out)
                    go_wp2
                    go_ret3
                    exact ⟨by rw [HC.out]; rfl, hBW.trans (hB.mono hWs)⟩
  · have hin : outB 1 5 (n : Int) = true := by unfold outB; simp; omega
    have HC : Hid (check c = (1, 0, 3)) := check_n (by rw [Hn.out]; exact h1)
    have Hin := Lib.hid hin
    clear hin h1
    go_enter Tryd.func15, Tryd.ntmps15
    go_wp2_with fail
    rw [HW.out]
    refine (out1_any _ (by exact newc rfl HWs.out) Hin.out).mono ?_
    rintro e W0 ⟨rfl, hb0⟩
    have hB0 : Below W.heap.size W W0 := bl_call (bl_alloc (Below.refl _ _) _ (Nat.le_refl _)) hb0 (Nat.le_refl _)
    clear hb0
    go_wp2
    go_ret3
    exact ⟨by rw [HC.out]; rfl, hBW.trans (hB0.mono hWs)⟩

end Go.Proofs.YtkbpmcpmcmnfgaaDoor
