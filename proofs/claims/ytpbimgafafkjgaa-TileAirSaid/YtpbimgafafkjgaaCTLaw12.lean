/- Walks: the law TileAir. -/
import Derived.Test.YtpbimgafafkjgaaCTAirPs
import Derived.Test.YtpbimgafafkjgaaCTLaw2
import Derived.Test.YtpbimgafafkjgaaCTOuts1
import Derived.Test.YtpbimgafafkjgaaCTRegs
set_option linter.unusedVariables false
set_option linter.unusedSimpArgs false
set_option linter.all false
namespace Go.Proofs.Ytpbimgafafkjgaa
open Go.RowKit

set_option maxRecDepth 100000 in
set_option maxHeartbeats 8000000 in
theorem airLaw_any {A B C : Option Addr} {n ca m cb q cc : Nat} {h : Hall} {l : List Seen} {alo ahi most : Int} (d0 d1 d2 : Nat) (hd0 : d0 < 256) (hd1 : d1 < 256) (hd2 : d2 < 256) (w : World) (g : HallAt (fun _ => True) w A n B m h) (gs : Seens (fun _ => True) w C q l) (hca : n ≤ ca) (h1 : h.alo = alo) (h2 : h.ahi = ahi) (h3 : h.most = most) :
    Calls Try.prog 12 #[.agg #[.int .i64 alo, .int .i64 ahi, .int .i64 most, .slice A n ca, .slice B m cb], .slice C q cc, .agg #[.int .u8 d0, .int .u8 d1, .int .u8 d2]] w fun e w' => e = .returned (.bool true) ∧ Below w.heap.size w w' := by
  have Hm := Lib.hid g.rs.len
  have Hn := Lib.hid g.ts.len
  obtain ⟨W, hW⟩ : ∃ W, (w.alloc (.cells #[.int .i64 alo, .int .i64 ahi, .int .i64 most, .slice A n ca, .slice B m cb] 27)).alloc (.cells #[.int .u8 d0, .int .u8 d1, .int .u8 d2] 70) = W := ⟨_, rfl⟩
  obtain ⟨g0, hg0⟩ : ∃ g0, w.heap.size = g0 := ⟨_, rfl⟩
  have X : Blk W g0 27 #[.int .i64 alo, .int .i64 ahi, .int .i64 most, .slice A n ca, .slice B m cb] := by rw [← hW, ← hg0]; exact (Blk.new _ _ _ rfl).alloc _
  have Z : Blk W (g0 + 1) 70 #[.int .u8 d0, .int .u8 d1, .int .u8 d2] := by rw [← hW, ← hg0]; exact Blk.new _ _ _ (by simp)
  have HBW : Hid (Below w.heap.size w W) := by rw [Hid, ← hW]; exact bl_alloc (bl_alloc (Below.refl _ _) _ (Nat.le_refl _)) _ (Nat.le_refl _)
  have HG := Lib.hid (g.keep (Keeps.below HBW.out))
  have HS := Lib.hid (gs.keep SeenR.good (Keeps.below HBW.out))
  have HX := Lib.hid X
  have kk : Hid (∀ V, Below W.heap.size W V → V.cell? ⟨g0, 0, none⟩ = some (.int .i64 alo) ∧ V.cell? ⟨g0, 1, none⟩ = some (.int .i64 ahi) ∧ V.cell? ⟨g0, 2, none⟩ = some (.int .i64 most) ∧ V.cell? ⟨g0, 3, none⟩ = some (.slice A n ca) ∧ V.cell? ⟨g0, 4, none⟩ = some (.slice B m cb) ∧ V.cell? ⟨g0 + 1, 0, none⟩ = some (.int .u8 d0) ∧ V.cell? ⟨g0 + 1, 1, none⟩ = some (.int .u8 d1) ∧ V.cell? ⟨g0 + 1, 2, none⟩ = some (.int .u8 d2)) :=
    fun V hb => ⟨(X.bl hb).cell 0, (X.bl hb).cell 1, (X.bl hb).cell 2, (X.bl hb).cell 3, (X.bl hb).cell 4, (Z.bl hb).cell 0, (Z.bl hb).cell 1, (Z.bl hb).cell 2⟩
  clear X Z g gs
  obtain ⟨x0, x1, x2, x3, x4, y0, y1, y2⟩ := kk.out W (Below.refl _ _)
  go_enter Try.func12, Try.ntmps12
  go_wp2_with fail
  clear hW x0 x1 x2 x3 x4 y0 y1 y2
  refine (good_any W HG.out HS.out h1 h2 h3).mono ?_
  rintro e V1 ⟨rfl, b1⟩
  obtain ⟨gb, hgb⟩ : ∃ gb, good8 h l = gb := ⟨_, rfl⟩
  rw [hgb]
  cases gb with
  | false =>
    clear hgb
    go_wp2_with fail
    refine (awake_any V1).mono ?_
    rintro e V2 ⟨rfl, c2⟩
    go_wp2
    go_ret
    exact ⟨by rfl, bl_call HBW.out (bl_call b1 c2 (Nat.le_refl _)) (Nat.le_refl _)⟩
  | true =>
    obtain ⟨e1, ea⟩ := good8_parts hgb
    obtain ⟨hk, hq6, hsn⟩ := seen_air e1
    have HE1 := Lib.hid e1
    have HEA := Lib.hid ea
    have HKK := Lib.hid hk
    have hm1 : 1 ≤ m ∧ m ≤ 3 := by have := hk.nr; rw [Hm.out] at this; exact this
    have hn1 : 1 ≤ n ∧ n ≤ 8 := by have := hk.nt; rw [Hn.out] at this; exact this
    obtain ⟨row, hrow⟩ : ∃ row, d0 % m = row := ⟨_, rfl⟩
    have hrm : row < m := by rw [← hrow]; exact Nat.mod_lt _ (by omega)
    have hmod : ((d0 : Int)).tmod (m : Int) = (row : Int) := by rw [Int.tmod_eq_emod_of_nonneg (by omega), ← hrow]; rfl
    have hcv : IntKind.i64.wrap (d0 : Int) = d0 := by rw [IntKind.wrap_i64]; omega
    have hmz : ¬ (m : Int) = 0 := by omega
    obtain ⟨an, han⟩ : ∃ an, d2 % 41 = an := ⟨_, rfl⟩
    have han41 : an < 41 := by rw [← han]; exact Nat.mod_lt _ (by decide)
    have hmod2 : ((d2 : Int)).tmod 41 = (an : Int) := by rw [Int.tmod_eq_emod_of_nonneg (by omega), ← han]; rfl
    have hcv2 : IntKind.i64.wrap (d2 : Int) = d2 := by rw [IntKind.wrap_i64]; omega
    have hmz2 : ((m : Int) == 0) = false := by simp; omega
    have hri : (row : Int) < m := by omega
    have hml : m ≤ maxLen := HG.out.rs.le
    clear e1 ea hk hgb hq6 hsn hrow han
    obtain ⟨x0, x1, x2, x3, x4, y0, y1, y2⟩ := kk.out V1 b1
    go_wp2_with fail
    go_quiet (fail)
    clear x0 x1 x2 x3 x4 y0 y1 y2
    obtain ⟨V1q, hV1q⟩ : ∃ V, V1.drewN nq = V := ⟨_, rfl⟩
    replace b1 : Below W.heap.size W V1q := by rw [← hV1q]; exact bl_drewN b1 _
    rw [hV1q]
    clear hV1q
    obtain ⟨x0, x1, x2, x3, x4, y0, y1, y2⟩ := kk.out V1q b1
    go_wp2_with fail
    clear x0 x1 x2 x3 x4 y0 y1 y2
    refine (chosen_any (v1 := .int .i64 alo) (v2 := .int .i64 ahi) (v3 := .int .i64 most) V1q (HG.out.keep (Keeps.below b1)) rfl rfl rfl HKK.out hrm hd1).mono ?_
    rintro e V2 ⟨⟨T, cT, rfl, hT, hcT⟩, c2⟩
    have b2 := bl_call b1 c2 (Nat.le_refl _)
    obtain ⟨TL, hTL⟩ : ∃ TL, choK n (rowP h row) d1 n = TL := ⟨_, rfl⟩
    have HTE : Hid (tilesE n (h.rows.getD row dRow).places TL = 0) := by
      have := cho_at HKK.out (row := row) (bits := d1) (by rw [Hm.out]; exact hrm) hd1
      rwa [Hn.out, hTL] at this
    rw [hTL] at hT hcT ⊢
    have HAS : Hid (asked8 h l row TL = 0) := asked_fine HE1.out (by rw [Hm.out]; exact hrm) (by rw [Hn.out]; exact HTE.out) HEA.out
    have HTM : Hid (∀ i ∈ TL, 0 ≤ i ∧ i < n) := (tilesE_zero HTE.out).2.1
    have hk8 : TL.length ≤ 8 := by rw [← hTL]; have := choK_len n (rowP h row) d1 n; omega
    clear hTL
    obtain ⟨k, hk⟩ : ∃ k, TL.length = k := ⟨_, rfl⟩
    rw [hk] at hT hcT hk8 ⊢
    have HKL := Lib.hid hk
    have HT := Lib.hid hT
    clear hk hT c2 b1
    have hair := HKK.out.air
    obtain ⟨s1, s2, s3, hss, hcase⟩ : ∃ s1 s2 s3 : Int, airsR h l row TL = ((s1, s2), s3) ∧ ((s1 = 0 ∧ s2 = 0 ∧ s3 = 8 ∧ ∀ k : Nat, k < 41 → ¬ fits8 h l row TL k) ∨ ∃ lo hi : Nat, s1 = lo ∧ s2 = hi ∧ s3 = 0 ∧ lo ≤ hi ∧ hi < 41 ∧ fits8 h l row TL lo ∧ fits8 h l row TL hi ∧ ∀ k : Nat, k < 41 → fits8 h l row TL k → lo ≤ k ∧ k ≤ hi) := by
      rcases airs_parts HAS.out with ⟨e, hn⟩ | ⟨lo, hi, e, hh⟩
      · exact ⟨_, _, _, e, .inl ⟨rfl, rfl, rfl, hn⟩⟩
      · exact ⟨_, _, _, e, .inr ⟨lo, hi, rfl, rfl, rfl, hh⟩⟩
    have HCASE := Lib.hid hcase
    clear hcase
    obtain ⟨x0, x1, x2, x3, x4, y0, y1, y2⟩ := kk.out V2 b2
    go_wp2_with fail
    clear x0 x1 x2 x3 x4 y0 y1 y2
    refine (tairs_any row V2 (HG.out.keep (Keeps.below b2)) (HS.out.keep SeenR.good (Keeps.below b2)) HT.out hca h1 h2 h3).mono ?_
    rintro e V3 ⟨rfl, c3⟩
    rw [hss]
    clear hss
    dsimp only
    have b3 := bl_call b2 c3 (Nat.le_refl _)
    have HT3 := Lib.hid (HT.out.keep IntR.good (Keeps.below c3))
    obtain ⟨g10, hg10⟩ : ∃ g, V3.heap.size = g := ⟨_, rfl⟩
    obtain ⟨V4, hV4⟩ : ∃ U, V3.alloc (.cells #[.int .i64 s1, .int .i64 s2] 23) = U := ⟨_, rfl⟩
    have S10 : Blk V4 g10 23 #[.int .i64 s1, .int .i64 s2] := by rw [← hV4]; exact Blk.new _ _ _ hg10.symm
    have b4 : Below W.heap.size W V4 := by rw [← hV4]; exact bl_alloc b3 _ (Nat.le_refl _)
    have HT4 : Hid (Ints (fun b => V1q.heap.size ≤ b) V4 T k TL) := by rw [Hid, ← hV4]; exact HT3.out.keep IntR.good (Keeps.alloc _ _)
    clear HT HT3 c3 b2
    obtain ⟨x0, x1, x2, x3, x4, y0, y1, y2⟩ := kk.out V4 b4
    go_wp2_with fail
    clear x0 x1 x2 x3 x4 y0 y1 y2
    clear hV4 hg10 b3
    refine (twhy_any row V4 (HG.out.keep (Keeps.below b4)) (HS.out.keep SeenR.good (Keeps.below b4)) HT4.out hca h1 h2 h3).mono ?_
    rintro e V5 ⟨rfl, c5⟩
    have b5 := bl_call b4 c5 (Nat.le_refl _)
    have T10 := S10.bl c5
    have HT5 := Lib.hid (HT4.out.keep IntR.good (Keeps.below c5))
    obtain ⟨w1, hw1⟩ : ∃ x, (whyR h l row TL).1 = x := ⟨_, rfl⟩
    have hw3 : (whyR h l row TL).2.2 = 0 := (why_iff HAS.out hair.2.1).1
    rw [hw1, hw3]
    generalize (whyR h l row TL).2.1 = w2
    have HW1 := Lib.hid hw1
    clear hw1 hw3 S10 HT4 c5 b4
    obtain ⟨g15, hg15⟩ : ∃ g, V5.heap.size = g := ⟨_, rfl⟩
    obtain ⟨V6, hV6⟩ : ∃ U, V5.alloc (.cells #[.int .i64 alo, .int .i64 ahi, .int .i64 most, .slice A n ca, .slice B m cb] 27) = U := ⟨_, rfl⟩
    have S15 : Blk V6 g15 27 #[.int .i64 alo, .int .i64 ahi, .int .i64 most, .slice A n ca, .slice B m cb] := by rw [← hV6]; exact Blk.new _ _ _ hg15.symm
    have b6 : Below W.heap.size W V6 := by rw [← hV6]; exact bl_alloc b5 _ (Nat.le_refl _)
    have T10b : Blk V6 g10 23 #[.int .i64 s1, .int .i64 s2] := by rw [← hV6]; exact T10.alloc _
    have HT6 : Hid (Ints (fun b => b < g15) V6 T k TL) := by rw [Hid, ← hV6, ← hg15]; exact ((HT5.out.bound IntR.good).mono IntR.good (fun k hk => hk.2)).keep IntR.good (Keeps.alloc _ _)
    have hgl : W.heap.size ≤ g15 := by rw [← hg15]; exact b5.size
    have hg01 : g10 < g15 := by rw [← hg15]; exact T10.lt
    obtain ⟨x0, x1, x2, x3, x4, y0, y1, y2⟩ := kk.out V5 b5
    go_wp2_with fail
    clear x0 x1 x2 x3 x4 y0 y1 y2
    clear hV6 hg15 T10 HT5 b5
    refine (span8_any (an : Int) (an : Int) V6).mono ?_
    rintro e V7 ⟨rfl, c7⟩
    have b7 := bl_call b6 c7 (Nat.le_refl _)
    have S15b := S15.bl c7
    have T10c := T10b.bl c7
    have HT7 := Lib.hid (HT6.out.keep IntR.good (Keeps.below c7))
    have z0 := S15b.cell 0
    have z1 := S15b.cell 1
    have fz0 := S15b.frozen 0
    have fz1 := S15b.frozen 1
    have hlz := S15b.lt
    obtain ⟨V8, hV8⟩ : ∃ U, (V7.setCell ⟨g15, 0, none⟩ (.int .i64 an)).setCell ⟨g15, 1, none⟩ (.int .i64 an) = U := ⟨_, rfl⟩
    have S15c : Blk V8 g15 27 #[.int .i64 an, .int .i64 an, .int .i64 most, .slice A n ca, .slice B m cb] := by rw [← hV8]; exact (S15b.set_ 0 _).set_ 1 _
    have T10d : Blk V8 g10 23 #[.int .i64 s1, .int .i64 s2] := by rw [← hV8]; exact (T10c.far (by dsimp only; omega) _).far (by dsimp only; omega) _
    have b8 : Below W.heap.size W V8 := by rw [← hV8]; exact bl_set (bl_set b7 (by dsimp only; omega) _) (by dsimp only; omega) _
    have HT8 : Hid (Ints (fun _ => True) V8 T k TL) := by rw [Hid, ← hV8]; exact ((HT7.out.keep IntR.good (Keeps.setCell _ ⟨g15, 0, none⟩ (.int .i64 an) (fun h => Nat.lt_irrefl _ h))).keep IntR.good (Keeps.setCell _ ⟨g15, 1, none⟩ (.int .i64 an) (fun h => Nat.lt_irrefl _ h))).mono IntR.good (fun _ _ => trivial)
    clear S15 T10b HT6 c7 b6
    have x0 := S15c.cell 0
    have x1 := S15c.cell 1
    have x2 := S15c.cell 2
    have x3 := S15c.cell 3
    have x4 := S15c.cell 4
    go_wp2_with fail
    clear x0 x1 x2 x3 x4 z0 z1 fz0 fz1 hlz S15b T10c HT7 b7 hV8
    refine (twhy_any (h := airAt h an) row V8 ⟨(HG.out.keep (Keeps.below b8)).ts, (HG.out.keep (Keeps.below b8)).rs⟩ (HS.out.keep SeenR.good (Keeps.below b8)) HT8.out hca rfl rfl h3).mono ?_
    rintro e V9 ⟨rfl, c9⟩
    have b9 := bl_call b8 c9 (Nat.le_refl _)
    have T10e := T10d.bl c9
    obtain ⟨q1, hq1⟩ : ∃ x, (whyR (airAt h an) l row TL).1 = x := ⟨_, rfl⟩
    have hq3 : (whyR (airAt h an) l row TL).2.2 = 0 := (why_iff (airAt_asked HAS.out (by omega) (by omega)) (Int.le_refl _)).1
    rw [hq1, hq3]
    generalize (whyR (airAt h an) l row TL).2.1 = q2
    have HQ1 := Lib.hid hq1
    clear hq1 hq3 T10d c9 HT8 S15c b8
    have HBF : Hid (Below w.heap.size w V9) := bl_call HBW.out b9 (Nat.le_refl _)
    have kl : Hid (∀ V, Below V9.heap.size V9 V → V.cell? ⟨g10, 0, none⟩ = some (.int .i64 s1) ∧ V.cell? ⟨g10, 1, none⟩ = some (.int .i64 s2) ∧ V.cell? ⟨g0, 0, none⟩ = some (.int .i64 alo) ∧ V.cell? ⟨g0, 1, none⟩ = some (.int .i64 ahi)) := fun V hb => ⟨(T10e.bl hb).c0, (T10e.bl hb).c1, (kk.out V (bl_call b9 hb (Nat.le_refl _))).1, (kk.out V (bl_call b9 hb (Nat.le_refl _))).2.1⟩
    clear T10e b9 hg01 hgl
    rcases HCASE.out with ⟨rfl, rfl, rfl, hnf⟩ | ⟨lo, hi, rfl, rfl, rfl, hlh, hh41, hf1, hf2, hf3⟩
    · obtain ⟨k1, k2⟩ := air_none HAS.out HKK.out han41 hnf
      have hwb : (w1 != 0) = true := by rw [HW1.out] at k1; simpa using k1
      have hqb : (q1 != 0) = true := by rw [HQ1.out] at k2; simpa using k2
      clear hnf k1 k2 HCASE
      go_wp2_with fail
      refine wp_frame ?_
      intro a0 hsz hget hdf
      have b11 : a0.tmps[11]? = some (.int .i64 8) := (hget 11).trans (by kernel_rfl)
      have b12 : a0.tmps[12]? = some (.int .i64 w1) := (hget 12).trans (by kernel_rfl)
      have b16 : a0.tmps[16]? = some (.int .i64 q1) := (hget 16).trans (by kernel_rfl)
      have b10 : a0.tmps[10]? = some (.pointer (some ⟨g10, 0, none⟩)) := (hget 10).trans (by kernel_rfl)
      replace hsz : a0.tmps.size = 144 := hsz.trans (by kernel_rfl)
      replace hdf : a0.defers = [] := hdf
      clear hget
      refine wp_region_list (fun W => Below V9.heap.size V9 W) (fun w w' => Below w.heap.size w w')
        [isV (.int .i64 8), isV (.bool true), isV (.bool true), isV (.agg #[.int .i64 0, .int .i64 0]), isV (.agg #[.int .i64 0, .int .i64 0]), isV (.bool true), isV (.bool true), isV (.bool true), isV (.int .i64 w1), isV (.bool true), isV (.bool true), isV (.bool true), isV (.int .i64 q1), isV (.bool true), isV (.bool true), isV (.bool true), isV (.bool true), isV (.bool true), isV (.bool true)]
        (by kernel_rfl) (by kernel_rfl) (by kernel_rfl) (by simp) (by simp) (Below.refl _ _).drew ?stabA ?stepA ?finA
      case stabA => exact (StabL.is (StabL.is (StabL.is (StabL.is (StabL.is (StabL.is (StabL.is (StabL.is (StabL.is (StabL.is (StabL.is (StabL.is (StabL.is (StabL.is (StabL.is (StabL.is (StabL.is (StabL.is (StabL.is StabL.nil)))))))))))))))))))
      case stepA =>
        refine StepsL.isA ?_ (StepsL.isA ?_ (StepsL.isA ?_ (StepsL.isA ?_ (StepsL.isA ?_ (StepsL.isA ?_ (StepsL.isA ?_ (StepsL.isA ?_ (StepsL.isA ?_ (StepsL.isA ?_ (StepsL.isA ?_ (StepsL.isA ?_ (StepsL.isA ?_ (StepsL.isA ?_ (StepsL.isA ?_ (StepsL.isA ?_ (StepsL.isA ?_ (StepsL.isA ?_ (StepsL.isA ?_ StepsL.nil))))))))))))))))))
        · -- 0
          intro vs a W K ha hC hD hU hK
          have r11 : a.tmps[11]? = some (.int .i64 8) := by rw [ha, fillA_base0 (by kernel_rfl)]; exact b11
          clear ha hU hD
          rw [if_pos (by rfl)]
          go_simp
          exact hK _ hC (Below.refl _ _)
        · -- 1
          intro vs a W K ha hC hD hU hK
          have r79 : a.tmps[79]? = some (vs 0) := by rw [ha]; exact fillA_get0 (j := 0) (by kernel_rfl) (by rw [hsz]; decide)
          have q0 : vs 0 = .int .i64 8 := hD 0 (by simp [waits, Region.binds])
          rw [q0] at r79
          clear ha hU hD
          rw [if_pos (by rfl)]
          go_simp
          exact hK _ hC (Below.refl _ _)
        · -- 2
          intro vs a W K ha hC hD hU hK
          have r80 : a.tmps[80]? = some (vs 1) := by rw [ha]; exact fillA_get0 (j := 1) (by kernel_rfl) (by rw [hsz]; decide)
          have q1 : vs 1 = .bool true := hD 1 (by simp [waits, Region.binds])
          rw [q1] at r80
          clear ha hU hD
          rw [if_pos (by rfl)]
          go_simp
          exact hK _ hC (Below.refl _ _)
        · -- 3
          intro vs a W K ha hC hD hU hK
          have r81 : a.tmps[81]? = some (vs 2) := by rw [ha]; exact fillA_get0 (j := 2) (by kernel_rfl) (by rw [hsz]; decide)
          have q2 : vs 2 = .bool true := hD 2 (by simp [waits, Region.binds])
          rw [q2] at r81
          have r10 : a.tmps[10]? = some (.pointer (some ⟨g10, 0, none⟩)) := by rw [ha, fillA_base0 (by kernel_rfl)]; exact b10
          clear ha hU hD
          rw [if_pos (by simp [Region.wanted, yielded, r81])]
          obtain ⟨k0, k1, k2, k3⟩ := kl.out W hC
          go_simp
          exact hK _ hC (Below.refl _ _)
        · -- 4
          intro vs a W K ha hC hD hU hK
          have r81 : a.tmps[81]? = some (vs 2) := by rw [ha]; exact fillA_get0 (j := 2) (by kernel_rfl) (by rw [hsz]; decide)
          have q2 : vs 2 = .bool true := hD 2 (by simp [waits, Region.binds])
          rw [q2] at r81
          clear ha hU hD
          rw [if_pos (by simp [Region.wanted, yielded, r81])]
          go_simp
          refine (span8_any 0 0 W).mono ?_
          rintro e w' ⟨rfl, hb⟩
          exact hK _ (bl_call hC hb (Nat.le_refl _)) hb
        · -- 5
          intro vs a W K ha hC hD hU hK
          have r81 : a.tmps[81]? = some (vs 2) := by rw [ha]; exact fillA_get0 (j := 2) (by kernel_rfl) (by rw [hsz]; decide)
          have q2 : vs 2 = .bool true := hD 2 (by simp [waits, Region.binds])
          rw [q2] at r81
          have r82 : a.tmps[82]? = some (vs 3) := by rw [ha]; exact fillA_get0 (j := 3) (by kernel_rfl) (by rw [hsz]; decide)
          have q3 : vs 3 = .agg #[.int .i64 0, .int .i64 0] := hD 3 (by simp [waits, Region.binds])
          rw [q3] at r82
          have r83 : a.tmps[83]? = some (vs 4) := by rw [ha]; exact fillA_get0 (j := 4) (by kernel_rfl) (by rw [hsz]; decide)
          have q4 : vs 4 = .agg #[.int .i64 0, .int .i64 0] := hD 4 (by simp [waits, Region.binds])
          rw [q4] at r83
          clear ha hU hD
          rw [if_pos (by simp [Region.wanted, yielded, r81])]
          go_simp
          exact hK _ hC (Below.refl _ _)
        · -- 6
          intro vs a W K ha hC hD hU hK
          have r81 : a.tmps[81]? = some (vs 2) := by rw [ha]; exact fillA_get0 (j := 2) (by kernel_rfl) (by rw [hsz]; decide)
          have q2 : vs 2 = .bool true := hD 2 (by simp [waits, Region.binds])
          rw [q2] at r81
          have r84 : a.tmps[84]? = some (vs 5) := by rw [ha]; exact fillA_get0 (j := 5) (by kernel_rfl) (by rw [hsz]; decide)
          have q5 : vs 5 = .bool true := hD 5 (by simp [waits, Region.binds])
          rw [q5] at r84
          clear ha hU hD
          rw [if_pos (by rfl)]
          go_simp
          exact hK _ hC (Below.refl _ _)
        · -- 7
          intro vs a W K ha hC hD hU hK
          have r85 : a.tmps[85]? = some (vs 6) := by rw [ha]; exact fillA_get0 (j := 6) (by kernel_rfl) (by rw [hsz]; decide)
          have q6 : vs 6 = .bool true := hD 6 (by simp [waits, Region.binds])
          rw [q6] at r85
          clear ha hU hD
          rw [if_pos (by rfl)]
          go_simp
          exact hK _ hC (Below.refl _ _)
        · -- 8
          intro vs a W K ha hC hD hU hK
          have r86 : a.tmps[86]? = some (vs 7) := by rw [ha]; exact fillA_get0 (j := 7) (by kernel_rfl) (by rw [hsz]; decide)
          have q7 : vs 7 = .bool true := hD 7 (by simp [waits, Region.binds])
          rw [q7] at r86
          have r12 : a.tmps[12]? = some (.int .i64 w1) := by rw [ha, fillA_base0 (by kernel_rfl)]; exact b12
          clear ha hU hD
          rw [if_pos (by simp [Region.wanted, yielded, r86])]
          go_simp
          exact hK _ hC (Below.refl _ _)
        · -- 9
          intro vs a W K ha hC hD hU hK
          have r86 : a.tmps[86]? = some (vs 7) := by rw [ha]; exact fillA_get0 (j := 7) (by kernel_rfl) (by rw [hsz]; decide)
          have q7 : vs 7 = .bool true := hD 7 (by simp [waits, Region.binds])
          rw [q7] at r86
          have r87 : a.tmps[87]? = some (vs 8) := by rw [ha]; exact fillA_get0 (j := 8) (by kernel_rfl) (by rw [hsz]; decide)
          have q8 : vs 8 = .int .i64 w1 := hD 8 (by simp [waits, Region.binds])
          rw [q8] at r87
          clear ha hU hD
          rw [if_pos (by simp [Region.wanted, yielded, r86])]
          go_simp
          exact hK _ hC (Below.refl _ _)
        · -- 10
          intro vs a W K ha hC hD hU hK
          have r86 : a.tmps[86]? = some (vs 7) := by rw [ha]; exact fillA_get0 (j := 7) (by kernel_rfl) (by rw [hsz]; decide)
          have q7 : vs 7 = .bool true := hD 7 (by simp [waits, Region.binds])
          rw [q7] at r86
          have r88 : a.tmps[88]? = some (vs 9) := by rw [ha]; exact fillA_get0 (j := 9) (by kernel_rfl) (by rw [hsz]; decide)
          have q9 : vs 9 = .bool true := hD 9 (by simp [waits, Region.binds])
          rw [q9] at r88
          clear ha hU hD
          rw [if_pos (by rfl)]
          go_simp
          exact hK _ hC (Below.refl _ _)
        · -- 11
          intro vs a W K ha hC hD hU hK
          have r89 : a.tmps[89]? = some (vs 10) := by rw [ha]; exact fillA_get0 (j := 10) (by kernel_rfl) (by rw [hsz]; decide)
          have q10 : vs 10 = .bool true := hD 10 (by simp [waits, Region.binds])
          rw [q10] at r89
          clear ha hU hD
          rw [if_pos (by rfl)]
          go_simp
          exact hK _ hC (Below.refl _ _)
        · -- 12
          intro vs a W K ha hC hD hU hK
          have r90 : a.tmps[90]? = some (vs 11) := by rw [ha]; exact fillA_get0 (j := 11) (by kernel_rfl) (by rw [hsz]; decide)
          have q11 : vs 11 = .bool true := hD 11 (by simp [waits, Region.binds])
          rw [q11] at r90
          have r16 : a.tmps[16]? = some (.int .i64 q1) := by rw [ha, fillA_base0 (by kernel_rfl)]; exact b16
          clear ha hU hD
          rw [if_pos (by simp [Region.wanted, yielded, r90])]
          go_simp
          exact hK _ hC (Below.refl _ _)
        · -- 13
          intro vs a W K ha hC hD hU hK
          have r90 : a.tmps[90]? = some (vs 11) := by rw [ha]; exact fillA_get0 (j := 11) (by kernel_rfl) (by rw [hsz]; decide)
          have q11 : vs 11 = .bool true := hD 11 (by simp [waits, Region.binds])
          rw [q11] at r90
          have r91 : a.tmps[91]? = some (vs 12) := by rw [ha]; exact fillA_get0 (j := 12) (by kernel_rfl) (by rw [hsz]; decide)
          have q12 : vs 12 = .int .i64 q1 := hD 12 (by simp [waits, Region.binds])
          rw [q12] at r91
          clear ha hU hD
          rw [if_pos (by simp [Region.wanted, yielded, r90])]
          go_simp
          exact hK _ hC (Below.refl _ _)
        · -- 14
          intro vs a W K ha hC hD hU hK
          have r90 : a.tmps[90]? = some (vs 11) := by rw [ha]; exact fillA_get0 (j := 11) (by kernel_rfl) (by rw [hsz]; decide)
          have q11 : vs 11 = .bool true := hD 11 (by simp [waits, Region.binds])
          rw [q11] at r90
          have r92 : a.tmps[92]? = some (vs 13) := by rw [ha]; exact fillA_get0 (j := 13) (by kernel_rfl) (by rw [hsz]; decide)
          have q13 : vs 13 = .bool true := hD 13 (by simp [waits, Region.binds])
          rw [q13] at r92
          clear ha hU hD
          rw [if_pos (by rfl)]
          go_simp
          exact hK _ hC (Below.refl _ _)
        · -- 15
          intro vs a W K ha hC hD hU hK
          have r93 : a.tmps[93]? = some (vs 14) := by rw [ha]; exact fillA_get0 (j := 14) (by kernel_rfl) (by rw [hsz]; decide)
          have q14 : vs 14 = .bool true := hD 14 (by simp [waits, Region.binds])
          rw [q14] at r93
          clear ha hU hD
          rw [if_pos (by rfl)]
          go_simp
          exact hK _ hC (Below.refl _ _)
        · -- 16
          intro vs a W K ha hC hD hU hK
          have r94 : a.tmps[94]? = some (vs 15) := by rw [ha]; exact fillA_get0 (j := 15) (by kernel_rfl) (by rw [hsz]; decide)
          have q15 : vs 15 = .bool true := hD 15 (by simp [waits, Region.binds])
          rw [q15] at r94
          clear ha hU hD
          rw [if_pos (by simp [Region.wanted, yielded, r94])]
          go_simp
          refine (awake_any W).mono ?_
          rintro e w' ⟨rfl, hb⟩
          exact hK _ (bl_call hC hb (Nat.le_refl _)) hb
        · -- 17
          intro vs a W K ha hC hD hU hK
          have r94 : a.tmps[94]? = some (vs 15) := by rw [ha]; exact fillA_get0 (j := 15) (by kernel_rfl) (by rw [hsz]; decide)
          have q15 : vs 15 = .bool true := hD 15 (by simp [waits, Region.binds])
          rw [q15] at r94
          have r95 : a.tmps[95]? = some (vs 16) := by rw [ha]; exact fillA_get0 (j := 16) (by kernel_rfl) (by rw [hsz]; decide)
          have q16 : vs 16 = .bool true := hD 16 (by simp [waits, Region.binds])
          rw [q16] at r95
          clear ha hU hD
          rw [if_pos (by rfl)]
          go_simp
          exact hK _ hC (Below.refl _ _)
        · -- 18
          intro vs a W K ha hC hD hU hK
          have r96 : a.tmps[96]? = some (vs 17) := by rw [ha]; exact fillA_get0 (j := 17) (by kernel_rfl) (by rw [hsz]; decide)
          have q17 : vs 17 = .bool true := hD 17 (by simp [waits, Region.binds])
          rw [q17] at r96
          clear ha hU hD
          rw [if_pos (by rfl)]
          go_simp
          exact hK _ hC (Below.refl _ _)
      case finA =>
        refine Fin1.none (Nat.le_refl _) ?_
        intro vs W a1 hC hE ha
        have e0 : vs 18 = .bool true := hE 18 (by simp)
        have r0 : a1.tmps[6]? = some (vs 18) := by rw [ha]; exact fillA_get0 (j := 18) (by kernel_rfl) (by rw [hsz]; decide)
        have hdf1 : a1.defers = [] := by rw [ha, fillA_defers]; exact hdf
        rw [e0] at r0
        have hBF := bl_call HBF.out hC (Nat.le_refl _)
        clear ha hE hC e0
        go_simp
        go_wp2
        refine bodyPost_ret (results_tmp rfl _ _ _) hdf1 ?_
        exact ⟨by simp [r0], hBF⟩
    · obtain ⟨k1, k2⟩ := air_some HAS.out HKK.out han41 hlh hh41 hf1 hf2 hf3
      rw [HW1.out, h1, h2] at k1
      rw [HQ1.out] at k2
      have hlo40 : inB (lo : Int) 0 40 = true := by simp [inB]; omega
      have hhi40 : inB (hi : Int) 0 40 = true := by simp [inB]; omega
      have hle : (lo : Int) ≤ hi := by omega
      obtain ⟨bi, hbi⟩ : ∃ bi, inB (an : Int) lo hi = bi := ⟨_, rfl⟩
      have hbq : (q1 == 0) = bi := by
        rw [← hbi, Bool.eq_iff_iff]
        simp only [beq_iff_eq, inB, Bool.and_eq_true, decide_eq_true_eq]
        rw [k2]; omega
      have HBI := Lib.hid hbi
      have HLO := Lib.hid hlo40
      have HHI := Lib.hid hhi40
      clear hbi hlo40 hhi40 hf1 hf2 hf3 HCASE k2
      by_cases hge : (lo : Int) ≤ alo
      · obtain ⟨c2, hc2⟩ : ∃ c2, decide (ahi ≤ (hi : Int)) = c2 := ⟨_, rfl⟩
        have hbw : (w1 == 0) = c2 := by
          rw [← hc2, Bool.eq_iff_iff]
          simp only [beq_iff_eq, decide_eq_true_eq]
          rw [k1]; exact ⟨fun h => h.2, fun h => ⟨hge, h⟩⟩
        clear k1
        go_wp2_with fail
        refine wp_frame ?_
        intro a0 hsz hget hdf
        have b3 : a0.tmps[3]? = some (.pointer (some ⟨g0, 0, none⟩)) := (hget 3).trans (by kernel_rfl)
        have b8 : a0.tmps[8]? = some (.int .i64 an) := (hget 8).trans (by kernel_rfl)
        have b10 : a0.tmps[10]? = some (.pointer (some ⟨g10, 0, none⟩)) := (hget 10).trans (by kernel_rfl)
        have b12 : a0.tmps[12]? = some (.int .i64 w1) := (hget 12).trans (by kernel_rfl)
        have b16 : a0.tmps[16]? = some (.int .i64 q1) := (hget 16).trans (by kernel_rfl)
        replace hsz : a0.tmps.size = 144 := hsz.trans (by kernel_rfl)
        replace hdf : a0.defers = [] := hdf
        clear hget
        refine wp_region_list (fun W => Below V9.heap.size V9 W) (fun w w' => Below w.heap.size w w')
          [isV (.pointer (some ⟨g10, 0, none⟩)), isV (.int .i64 lo), isV (.pointer (some ⟨g10, 1, none⟩)), isV (.int .i64 hi), isV (.bool true), isV (.bool true), isV (.pointer (some ⟨g10, 0, none⟩)), isV (.int .i64 lo), isV (.agg #[.int .i64 0, .int .i64 40]), isV (.bool true), isV (.bool true), isV (.bool true), isV (.pointer (some ⟨g10, 1, none⟩)), isV (.int .i64 hi), isV (.agg #[.int .i64 0, .int .i64 40]), isV (.bool true), isV (.bool true), isV (.bool true), isV (.int .i64 w1), isV (.bool c2), isV (.pointer (some ⟨g0, 0, none⟩)), isV (.pointer (some ⟨g0, 0, none⟩)), isV (.int .i64 alo), isV (.pointer (some ⟨g10, 0, none⟩)), isV (.int .i64 lo), isV (.bool true), isV (.bool true), isV (.pointer (some ⟨g0, 0, none⟩)), isV (.pointer (some ⟨g0, 1, none⟩)), isV (.int .i64 ahi), isV (.pointer (some ⟨g10, 1, none⟩)), isV (.int .i64 hi), isV (.bool c2), isV (.bool c2), isV (.bool true), isV (.bool true), isV (.bool true), isV (.int .i64 q1), isV (.bool bi), isV (.int .i64 an), isV (.agg #[.int .i64 lo, .int .i64 hi]), isV (.bool bi), isV (.bool true), isV (.bool true), isV (.bool true), isV (.bool true), isV (.bool true), isV (.bool true)]
          (by kernel_rfl) (by kernel_rfl) (by kernel_rfl) (by simp) (by simp) (Below.refl _ _).drew ?stabA ?stepA ?finA
        case stabA => exact (StabL.is (StabL.is (StabL.is (StabL.is (StabL.is (StabL.is (StabL.is (StabL.is (StabL.is (StabL.is (StabL.is (StabL.is (StabL.is (StabL.is (StabL.is (StabL.is (StabL.is (StabL.is (StabL.is (StabL.is (StabL.is (StabL.is (StabL.is (StabL.is (StabL.is (StabL.is (StabL.is (StabL.is (StabL.is (StabL.is (StabL.is (StabL.is (StabL.is (StabL.is (StabL.is (StabL.is (StabL.is (StabL.is (StabL.is (StabL.is (StabL.is (StabL.is (StabL.is (StabL.is (StabL.is (StabL.is (StabL.is (StabL.is StabL.nil))))))))))))))))))))))))))))))))))))))))))))))))
        case stepA =>
          refine StepsL.isA ?_ (StepsL.isA ?_ (StepsL.isA ?_ (StepsL.isA ?_ (StepsL.isA ?_ (StepsL.isA ?_ (StepsL.isA ?_ (StepsL.isA ?_ (StepsL.isA ?_ (StepsL.isA ?_ (StepsL.isA ?_ (StepsL.isA ?_ (StepsL.isA ?_ (StepsL.isA ?_ (StepsL.isA ?_ (StepsL.isA ?_ (StepsL.isA ?_ (StepsL.isA ?_ (StepsL.isA ?_ (StepsL.isA ?_ (StepsL.isA ?_ (StepsL.isA ?_ (StepsL.isA ?_ (StepsL.isA ?_ (StepsL.isA ?_ (StepsL.isA ?_ (StepsL.isA ?_ (StepsL.isA ?_ (StepsL.isA ?_ (StepsL.isA ?_ (StepsL.isA ?_ (StepsL.isA ?_ (StepsL.isA ?_ (StepsL.isA ?_ (StepsL.isA ?_ (StepsL.isA ?_ (StepsL.isA ?_ (StepsL.isA ?_ (StepsL.isA ?_ (StepsL.isA ?_ (StepsL.isA ?_ (StepsL.isA ?_ (StepsL.isA ?_ (StepsL.isA ?_ (StepsL.isA ?_ (StepsL.isA ?_ (StepsL.isA ?_ (StepsL.isA ?_ StepsL.nil)))))))))))))))))))))))))))))))))))))))))))))))
          · -- 0
            intro vs a W K ha hC hD hU hK
            have r10 : a.tmps[10]? = some (.pointer (some ⟨g10, 0, none⟩)) := by rw [ha, fillA_base0 (by kernel_rfl)]; exact b10
            clear ha hU hD
            rw [if_pos (by rfl)]
            go_simp
            exact hK _ hC (Below.refl _ _)
          · -- 1
            intro vs a W K ha hC hD hU hK
            have r97 : a.tmps[97]? = some (vs 0) := by rw [ha]; exact fillA_get0 (j := 0) (by kernel_rfl) (by rw [hsz]; decide)
            have q0 : vs 0 = .pointer (some ⟨g10, 0, none⟩) := hD 0 (by simp [waits, Region.binds])
            rw [q0] at r97
            clear ha hU hD
            rw [if_pos (by rfl)]
            obtain ⟨k0, k1, k2, k3⟩ := kl.out W hC
            go_simp
            exact hK _ hC (Below.refl _ _)
          · -- 2
            intro vs a W K ha hC hD hU hK
            have r10 : a.tmps[10]? = some (.pointer (some ⟨g10, 0, none⟩)) := by rw [ha, fillA_base0 (by kernel_rfl)]; exact b10
            clear ha hU hD
            rw [if_pos (by rfl)]
            go_simp
            exact hK _ hC (Below.refl _ _)
          · -- 3
            intro vs a W K ha hC hD hU hK
            have r99 : a.tmps[99]? = some (vs 2) := by rw [ha]; exact fillA_get0 (j := 2) (by kernel_rfl) (by rw [hsz]; decide)
            have q2 : vs 2 = .pointer (some ⟨g10, 1, none⟩) := hD 2 (by simp [waits, Region.binds])
            rw [q2] at r99
            clear ha hU hD
            rw [if_pos (by rfl)]
            obtain ⟨k0, k1, k2, k3⟩ := kl.out W hC
            go_simp
            exact hK _ hC (Below.refl _ _)
          · -- 4
            intro vs a W K ha hC hD hU hK
            have r98 : a.tmps[98]? = some (vs 1) := by rw [ha]; exact fillA_get0 (j := 1) (by kernel_rfl) (by rw [hsz]; decide)
            have q1 : vs 1 = .int .i64 lo := hD 1 (by simp [waits, Region.binds])
            rw [q1] at r98
            have r100 : a.tmps[100]? = some (vs 3) := by rw [ha]; exact fillA_get0 (j := 3) (by kernel_rfl) (by rw [hsz]; decide)
            have q3 : vs 3 = .int .i64 hi := hD 3 (by simp [waits, Region.binds])
            rw [q3] at r100
            clear ha hU hD
            rw [if_pos (by rfl)]
            go_simp
            exact hK _ hC (Below.refl _ _)
          · -- 5
            intro vs a W K ha hC hD hU hK
            have r101 : a.tmps[101]? = some (vs 4) := by rw [ha]; exact fillA_get0 (j := 4) (by kernel_rfl) (by rw [hsz]; decide)
            have q4 : vs 4 = .bool true := hD 4 (by simp [waits, Region.binds])
            rw [q4] at r101
            clear ha hU hD
            rw [if_pos (by rfl)]
            go_simp
            exact hK _ hC (Below.refl _ _)
          · -- 6
            intro vs a W K ha hC hD hU hK
            have r102 : a.tmps[102]? = some (vs 5) := by rw [ha]; exact fillA_get0 (j := 5) (by kernel_rfl) (by rw [hsz]; decide)
            have q5 : vs 5 = .bool true := hD 5 (by simp [waits, Region.binds])
            rw [q5] at r102
            have r10 : a.tmps[10]? = some (.pointer (some ⟨g10, 0, none⟩)) := by rw [ha, fillA_base0 (by kernel_rfl)]; exact b10
            clear ha hU hD
            rw [if_pos (by simp [Region.wanted, yielded, r102])]
            go_simp
            exact hK _ hC (Below.refl _ _)
          · -- 7
            intro vs a W K ha hC hD hU hK
            have r102 : a.tmps[102]? = some (vs 5) := by rw [ha]; exact fillA_get0 (j := 5) (by kernel_rfl) (by rw [hsz]; decide)
            have q5 : vs 5 = .bool true := hD 5 (by simp [waits, Region.binds])
            rw [q5] at r102
            have r103 : a.tmps[103]? = some (vs 6) := by rw [ha]; exact fillA_get0 (j := 6) (by kernel_rfl) (by rw [hsz]; decide)
            have q6 : vs 6 = .pointer (some ⟨g10, 0, none⟩) := hD 6 (by simp [waits, Region.binds])
            rw [q6] at r103
            clear ha hU hD
            rw [if_pos (by simp [Region.wanted, yielded, r102])]
            obtain ⟨k0, k1, k2, k3⟩ := kl.out W hC
            go_simp
            exact hK _ hC (Below.refl _ _)
          · -- 8
            intro vs a W K ha hC hD hU hK
            have r102 : a.tmps[102]? = some (vs 5) := by rw [ha]; exact fillA_get0 (j := 5) (by kernel_rfl) (by rw [hsz]; decide)
            have q5 : vs 5 = .bool true := hD 5 (by simp [waits, Region.binds])
            rw [q5] at r102
            clear ha hU hD
            rw [if_pos (by simp [Region.wanted, yielded, r102])]
            go_simp
            refine (span8_any 0 40 W).mono ?_
            rintro e w' ⟨rfl, hb⟩
            exact hK _ (bl_call hC hb (Nat.le_refl _)) hb
          · -- 9
            intro vs a W K ha hC hD hU hK
            have r102 : a.tmps[102]? = some (vs 5) := by rw [ha]; exact fillA_get0 (j := 5) (by kernel_rfl) (by rw [hsz]; decide)
            have q5 : vs 5 = .bool true := hD 5 (by simp [waits, Region.binds])
            rw [q5] at r102
            have r104 : a.tmps[104]? = some (vs 7) := by rw [ha]; exact fillA_get0 (j := 7) (by kernel_rfl) (by rw [hsz]; decide)
            have q7 : vs 7 = .int .i64 lo := hD 7 (by simp [waits, Region.binds])
            rw [q7] at r104
            have r105 : a.tmps[105]? = some (vs 8) := by rw [ha]; exact fillA_get0 (j := 8) (by kernel_rfl) (by rw [hsz]; decide)
            have q8 : vs 8 = .agg #[.int .i64 0, .int .i64 40] := hD 8 (by simp [waits, Region.binds])
            rw [q8] at r105
            clear ha hU hD
            rw [if_pos (by simp [Region.wanted, yielded, r102])]
            go_simp
            refine (in40_any (lo : Int) 0 40 W).mono ?_
            rw [HLO.out]
            rintro e w' ⟨rfl, hb⟩
            exact hK _ (bl_call hC hb (Nat.le_refl _)) hb
          · -- 10
            intro vs a W K ha hC hD hU hK
            have r102 : a.tmps[102]? = some (vs 5) := by rw [ha]; exact fillA_get0 (j := 5) (by kernel_rfl) (by rw [hsz]; decide)
            have q5 : vs 5 = .bool true := hD 5 (by simp [waits, Region.binds])
            rw [q5] at r102
            have r106 : a.tmps[106]? = some (vs 9) := by rw [ha]; exact fillA_get0 (j := 9) (by kernel_rfl) (by rw [hsz]; decide)
            have q9 : vs 9 = .bool true := hD 9 (by simp [waits, Region.binds])
            rw [q9] at r106
            clear ha hU hD
            rw [if_pos (by rfl)]
            go_simp
            exact hK _ hC (Below.refl _ _)
          · -- 11
            intro vs a W K ha hC hD hU hK
            have r107 : a.tmps[107]? = some (vs 10) := by rw [ha]; exact fillA_get0 (j := 10) (by kernel_rfl) (by rw [hsz]; decide)
            have q10 : vs 10 = .bool true := hD 10 (by simp [waits, Region.binds])
            rw [q10] at r107
            clear ha hU hD
            rw [if_pos (by rfl)]
            go_simp
            exact hK _ hC (Below.refl _ _)
          · -- 12
            intro vs a W K ha hC hD hU hK
            have r108 : a.tmps[108]? = some (vs 11) := by rw [ha]; exact fillA_get0 (j := 11) (by kernel_rfl) (by rw [hsz]; decide)
            have q11 : vs 11 = .bool true := hD 11 (by simp [waits, Region.binds])
            rw [q11] at r108
            have r10 : a.tmps[10]? = some (.pointer (some ⟨g10, 0, none⟩)) := by rw [ha, fillA_base0 (by kernel_rfl)]; exact b10
            clear ha hU hD
            rw [if_pos (by simp [Region.wanted, yielded, r108])]
            go_simp
            exact hK _ hC (Below.refl _ _)
          · -- 13
            intro vs a W K ha hC hD hU hK
            have r108 : a.tmps[108]? = some (vs 11) := by rw [ha]; exact fillA_get0 (j := 11) (by kernel_rfl) (by rw [hsz]; decide)
            have q11 : vs 11 = .bool true := hD 11 (by simp [waits, Region.binds])
            rw [q11] at r108
            have r109 : a.tmps[109]? = some (vs 12) := by rw [ha]; exact fillA_get0 (j := 12) (by kernel_rfl) (by rw [hsz]; decide)
            have q12 : vs 12 = .pointer (some ⟨g10, 1, none⟩) := hD 12 (by simp [waits, Region.binds])
            rw [q12] at r109
            clear ha hU hD
            rw [if_pos (by simp [Region.wanted, yielded, r108])]
            obtain ⟨k0, k1, k2, k3⟩ := kl.out W hC
            go_simp
            exact hK _ hC (Below.refl _ _)
          · -- 14
            intro vs a W K ha hC hD hU hK
            have r108 : a.tmps[108]? = some (vs 11) := by rw [ha]; exact fillA_get0 (j := 11) (by kernel_rfl) (by rw [hsz]; decide)
            have q11 : vs 11 = .bool true := hD 11 (by simp [waits, Region.binds])
            rw [q11] at r108
            clear ha hU hD
            rw [if_pos (by simp [Region.wanted, yielded, r108])]
            go_simp
            refine (span8_any 0 40 W).mono ?_
            rintro e w' ⟨rfl, hb⟩
            exact hK _ (bl_call hC hb (Nat.le_refl _)) hb
          · -- 15
            intro vs a W K ha hC hD hU hK
            have r108 : a.tmps[108]? = some (vs 11) := by rw [ha]; exact fillA_get0 (j := 11) (by kernel_rfl) (by rw [hsz]; decide)
            have q11 : vs 11 = .bool true := hD 11 (by simp [waits, Region.binds])
            rw [q11] at r108
            have r110 : a.tmps[110]? = some (vs 13) := by rw [ha]; exact fillA_get0 (j := 13) (by kernel_rfl) (by rw [hsz]; decide)
            have q13 : vs 13 = .int .i64 hi := hD 13 (by simp [waits, Region.binds])
            rw [q13] at r110
            have r111 : a.tmps[111]? = some (vs 14) := by rw [ha]; exact fillA_get0 (j := 14) (by kernel_rfl) (by rw [hsz]; decide)
            have q14 : vs 14 = .agg #[.int .i64 0, .int .i64 40] := hD 14 (by simp [waits, Region.binds])
            rw [q14] at r111
            clear ha hU hD
            rw [if_pos (by simp [Region.wanted, yielded, r108])]
            go_simp
            refine (in40_any (hi : Int) 0 40 W).mono ?_
            rw [HHI.out]
            rintro e w' ⟨rfl, hb⟩
            exact hK _ (bl_call hC hb (Nat.le_refl _)) hb
          · -- 16
            intro vs a W K ha hC hD hU hK
            have r108 : a.tmps[108]? = some (vs 11) := by rw [ha]; exact fillA_get0 (j := 11) (by kernel_rfl) (by rw [hsz]; decide)
            have q11 : vs 11 = .bool true := hD 11 (by simp [waits, Region.binds])
            rw [q11] at r108
            have r112 : a.tmps[112]? = some (vs 15) := by rw [ha]; exact fillA_get0 (j := 15) (by kernel_rfl) (by rw [hsz]; decide)
            have q15 : vs 15 = .bool true := hD 15 (by simp [waits, Region.binds])
            rw [q15] at r112
            clear ha hU hD
            rw [if_pos (by rfl)]
            go_simp
            exact hK _ hC (Below.refl _ _)
          · -- 17
            intro vs a W K ha hC hD hU hK
            have r113 : a.tmps[113]? = some (vs 16) := by rw [ha]; exact fillA_get0 (j := 16) (by kernel_rfl) (by rw [hsz]; decide)
            have q16 : vs 16 = .bool true := hD 16 (by simp [waits, Region.binds])
            rw [q16] at r113
            clear ha hU hD
            rw [if_pos (by rfl)]
            go_simp
            exact hK _ hC (Below.refl _ _)
          · -- 18
            intro vs a W K ha hC hD hU hK
            have r114 : a.tmps[114]? = some (vs 17) := by rw [ha]; exact fillA_get0 (j := 17) (by kernel_rfl) (by rw [hsz]; decide)
            have q17 : vs 17 = .bool true := hD 17 (by simp [waits, Region.binds])
            rw [q17] at r114
            have r12 : a.tmps[12]? = some (.int .i64 w1) := by rw [ha, fillA_base0 (by kernel_rfl)]; exact b12
            clear ha hU hD
            rw [if_pos (by simp [Region.wanted, yielded, r114])]
            go_simp
            exact hK _ hC (Below.refl _ _)
          · -- 19
            intro vs a W K ha hC hD hU hK
            have r114 : a.tmps[114]? = some (vs 17) := by rw [ha]; exact fillA_get0 (j := 17) (by kernel_rfl) (by rw [hsz]; decide)
            have q17 : vs 17 = .bool true := hD 17 (by simp [waits, Region.binds])
            rw [q17] at r114
            have r115 : a.tmps[115]? = some (vs 18) := by rw [ha]; exact fillA_get0 (j := 18) (by kernel_rfl) (by rw [hsz]; decide)
            have q18 : vs 18 = .int .i64 w1 := hD 18 (by simp [waits, Region.binds])
            rw [q18] at r115
            clear ha hU hD
            rw [if_pos (by simp [Region.wanted, yielded, r114])]
            go_simp
            exact hK _ hC (Below.refl _ _)
          · -- 20
            intro vs a W K ha hC hD hU hK
            have r114 : a.tmps[114]? = some (vs 17) := by rw [ha]; exact fillA_get0 (j := 17) (by kernel_rfl) (by rw [hsz]; decide)
            have q17 : vs 17 = .bool true := hD 17 (by simp [waits, Region.binds])
            rw [q17] at r114
            have r3 : a.tmps[3]? = some (.pointer (some ⟨g0, 0, none⟩)) := by rw [ha, fillA_base0 (by kernel_rfl)]; exact b3
            clear ha hU hD
            rw [if_pos (by simp [Region.wanted, yielded, r114])]
            go_simp
            exact hK _ hC (Below.refl _ _)
          · -- 21
            intro vs a W K ha hC hD hU hK
            have r114 : a.tmps[114]? = some (vs 17) := by rw [ha]; exact fillA_get0 (j := 17) (by kernel_rfl) (by rw [hsz]; decide)
            have q17 : vs 17 = .bool true := hD 17 (by simp [waits, Region.binds])
            rw [q17] at r114
            have r117 : a.tmps[117]? = some (vs 20) := by rw [ha]; exact fillA_get0 (j := 20) (by kernel_rfl) (by rw [hsz]; decide)
            have q20 : vs 20 = .pointer (some ⟨g0, 0, none⟩) := hD 20 (by simp [waits, Region.binds])
            rw [q20] at r117
            clear ha hU hD
            rw [if_pos (by simp [Region.wanted, yielded, r114])]
            go_simp
            exact hK _ hC (Below.refl _ _)
          · -- 22
            intro vs a W K ha hC hD hU hK
            have r114 : a.tmps[114]? = some (vs 17) := by rw [ha]; exact fillA_get0 (j := 17) (by kernel_rfl) (by rw [hsz]; decide)
            have q17 : vs 17 = .bool true := hD 17 (by simp [waits, Region.binds])
            rw [q17] at r114
            have r118 : a.tmps[118]? = some (vs 21) := by rw [ha]; exact fillA_get0 (j := 21) (by kernel_rfl) (by rw [hsz]; decide)
            have q21 : vs 21 = .pointer (some ⟨g0, 0, none⟩) := hD 21 (by simp [waits, Region.binds])
            rw [q21] at r118
            clear ha hU hD
            rw [if_pos (by simp [Region.wanted, yielded, r114])]
            obtain ⟨k0, k1, k2, k3⟩ := kl.out W hC
            go_simp
            exact hK _ hC (Below.refl _ _)
          · -- 23
            intro vs a W K ha hC hD hU hK
            have r114 : a.tmps[114]? = some (vs 17) := by rw [ha]; exact fillA_get0 (j := 17) (by kernel_rfl) (by rw [hsz]; decide)
            have q17 : vs 17 = .bool true := hD 17 (by simp [waits, Region.binds])
            rw [q17] at r114
            have r10 : a.tmps[10]? = some (.pointer (some ⟨g10, 0, none⟩)) := by rw [ha, fillA_base0 (by kernel_rfl)]; exact b10
            clear ha hU hD
            rw [if_pos (by simp [Region.wanted, yielded, r114])]
            go_simp
            exact hK _ hC (Below.refl _ _)
          · -- 24
            intro vs a W K ha hC hD hU hK
            have r114 : a.tmps[114]? = some (vs 17) := by rw [ha]; exact fillA_get0 (j := 17) (by kernel_rfl) (by rw [hsz]; decide)
            have q17 : vs 17 = .bool true := hD 17 (by simp [waits, Region.binds])
            rw [q17] at r114
            have r120 : a.tmps[120]? = some (vs 23) := by rw [ha]; exact fillA_get0 (j := 23) (by kernel_rfl) (by rw [hsz]; decide)
            have q23 : vs 23 = .pointer (some ⟨g10, 0, none⟩) := hD 23 (by simp [waits, Region.binds])
            rw [q23] at r120
            clear ha hU hD
            rw [if_pos (by simp [Region.wanted, yielded, r114])]
            obtain ⟨k0, k1, k2, k3⟩ := kl.out W hC
            go_simp
            exact hK _ hC (Below.refl _ _)
          · -- 25
            intro vs a W K ha hC hD hU hK
            have r114 : a.tmps[114]? = some (vs 17) := by rw [ha]; exact fillA_get0 (j := 17) (by kernel_rfl) (by rw [hsz]; decide)
            have q17 : vs 17 = .bool true := hD 17 (by simp [waits, Region.binds])
            rw [q17] at r114
            have r119 : a.tmps[119]? = some (vs 22) := by rw [ha]; exact fillA_get0 (j := 22) (by kernel_rfl) (by rw [hsz]; decide)
            have q22 : vs 22 = .int .i64 alo := hD 22 (by simp [waits, Region.binds])
            rw [q22] at r119
            have r121 : a.tmps[121]? = some (vs 24) := by rw [ha]; exact fillA_get0 (j := 24) (by kernel_rfl) (by rw [hsz]; decide)
            have q24 : vs 24 = .int .i64 lo := hD 24 (by simp [waits, Region.binds])
            rw [q24] at r121
            clear ha hU hD
            rw [if_pos (by simp [Region.wanted, yielded, r114])]
            go_simp
            exact hK _ hC (Below.refl _ _)
          · -- 26
            intro vs a W K ha hC hD hU hK
            have r114 : a.tmps[114]? = some (vs 17) := by rw [ha]; exact fillA_get0 (j := 17) (by kernel_rfl) (by rw [hsz]; decide)
            have q17 : vs 17 = .bool true := hD 17 (by simp [waits, Region.binds])
            rw [q17] at r114
            have r122 : a.tmps[122]? = some (vs 25) := by rw [ha]; exact fillA_get0 (j := 25) (by kernel_rfl) (by rw [hsz]; decide)
            have q25 : vs 25 = .bool true := hD 25 (by simp [waits, Region.binds])
            rw [q25] at r122
            clear ha hU hD
            rw [if_pos (by simp [Region.wanted, yielded, r114])]
            go_simp
            exact hK _ hC (Below.refl _ _)
          · -- 27
            intro vs a W K ha hC hD hU hK
            have r123 : a.tmps[123]? = some (vs 26) := by rw [ha]; exact fillA_get0 (j := 26) (by kernel_rfl) (by rw [hsz]; decide)
            have q26 : vs 26 = .bool true := hD 26 (by simp [waits, Region.binds])
            rw [q26] at r123
            have r3 : a.tmps[3]? = some (.pointer (some ⟨g0, 0, none⟩)) := by rw [ha, fillA_base0 (by kernel_rfl)]; exact b3
            clear ha hU hD
            rw [if_pos (by simp [Region.wanted, yielded, r123])]
            go_simp
            exact hK _ hC (Below.refl _ _)
          · -- 28
            intro vs a W K ha hC hD hU hK
            have r123 : a.tmps[123]? = some (vs 26) := by rw [ha]; exact fillA_get0 (j := 26) (by kernel_rfl) (by rw [hsz]; decide)
            have q26 : vs 26 = .bool true := hD 26 (by simp [waits, Region.binds])
            rw [q26] at r123
            have r124 : a.tmps[124]? = some (vs 27) := by rw [ha]; exact fillA_get0 (j := 27) (by kernel_rfl) (by rw [hsz]; decide)
            have q27 : vs 27 = .pointer (some ⟨g0, 0, none⟩) := hD 27 (by simp [waits, Region.binds])
            rw [q27] at r124
            clear ha hU hD
            rw [if_pos (by simp [Region.wanted, yielded, r123])]
            go_simp
            exact hK _ hC (Below.refl _ _)
          · -- 29
            intro vs a W K ha hC hD hU hK
            have r123 : a.tmps[123]? = some (vs 26) := by rw [ha]; exact fillA_get0 (j := 26) (by kernel_rfl) (by rw [hsz]; decide)
            have q26 : vs 26 = .bool true := hD 26 (by simp [waits, Region.binds])
            rw [q26] at r123
            have r125 : a.tmps[125]? = some (vs 28) := by rw [ha]; exact fillA_get0 (j := 28) (by kernel_rfl) (by rw [hsz]; decide)
            have q28 : vs 28 = .pointer (some ⟨g0, 1, none⟩) := hD 28 (by simp [waits, Region.binds])
            rw [q28] at r125
            clear ha hU hD
            rw [if_pos (by simp [Region.wanted, yielded, r123])]
            obtain ⟨k0, k1, k2, k3⟩ := kl.out W hC
            go_simp
            exact hK _ hC (Below.refl _ _)
          · -- 30
            intro vs a W K ha hC hD hU hK
            have r123 : a.tmps[123]? = some (vs 26) := by rw [ha]; exact fillA_get0 (j := 26) (by kernel_rfl) (by rw [hsz]; decide)
            have q26 : vs 26 = .bool true := hD 26 (by simp [waits, Region.binds])
            rw [q26] at r123
            have r10 : a.tmps[10]? = some (.pointer (some ⟨g10, 0, none⟩)) := by rw [ha, fillA_base0 (by kernel_rfl)]; exact b10
            clear ha hU hD
            rw [if_pos (by simp [Region.wanted, yielded, r123])]
            go_simp
            exact hK _ hC (Below.refl _ _)
          · -- 31
            intro vs a W K ha hC hD hU hK
            have r123 : a.tmps[123]? = some (vs 26) := by rw [ha]; exact fillA_get0 (j := 26) (by kernel_rfl) (by rw [hsz]; decide)
            have q26 : vs 26 = .bool true := hD 26 (by simp [waits, Region.binds])
            rw [q26] at r123
            have r127 : a.tmps[127]? = some (vs 30) := by rw [ha]; exact fillA_get0 (j := 30) (by kernel_rfl) (by rw [hsz]; decide)
            have q30 : vs 30 = .pointer (some ⟨g10, 1, none⟩) := hD 30 (by simp [waits, Region.binds])
            rw [q30] at r127
            clear ha hU hD
            rw [if_pos (by simp [Region.wanted, yielded, r123])]
            obtain ⟨k0, k1, k2, k3⟩ := kl.out W hC
            go_simp
            exact hK _ hC (Below.refl _ _)
          · -- 32
            intro vs a W K ha hC hD hU hK
            have r123 : a.tmps[123]? = some (vs 26) := by rw [ha]; exact fillA_get0 (j := 26) (by kernel_rfl) (by rw [hsz]; decide)
            have q26 : vs 26 = .bool true := hD 26 (by simp [waits, Region.binds])
            rw [q26] at r123
            have r126 : a.tmps[126]? = some (vs 29) := by rw [ha]; exact fillA_get0 (j := 29) (by kernel_rfl) (by rw [hsz]; decide)
            have q29 : vs 29 = .int .i64 ahi := hD 29 (by simp [waits, Region.binds])
            rw [q29] at r126
            have r128 : a.tmps[128]? = some (vs 31) := by rw [ha]; exact fillA_get0 (j := 31) (by kernel_rfl) (by rw [hsz]; decide)
            have q31 : vs 31 = .int .i64 hi := hD 31 (by simp [waits, Region.binds])
            rw [q31] at r128
            clear ha hU hD
            rw [if_pos (by simp [Region.wanted, yielded, r123])]
            go_simp
            exact hK _ hC (Below.refl _ _)
          · -- 33
            intro vs a W K ha hC hD hU hK
            have r114 : a.tmps[114]? = some (vs 17) := by rw [ha]; exact fillA_get0 (j := 17) (by kernel_rfl) (by rw [hsz]; decide)
            have q17 : vs 17 = .bool true := hD 17 (by simp [waits, Region.binds])
            rw [q17] at r114
            have r123 : a.tmps[123]? = some (vs 26) := by rw [ha]; exact fillA_get0 (j := 26) (by kernel_rfl) (by rw [hsz]; decide)
            have q26 : vs 26 = .bool true := hD 26 (by simp [waits, Region.binds])
            rw [q26] at r123
            have r129 : a.tmps[129]? = some (vs 32) := by rw [ha]; exact fillA_get0 (j := 32) (by kernel_rfl) (by rw [hsz]; decide)
            have q32 : vs 32 = .bool c2 := hD 32 (by simp [waits, Region.binds])
            rw [q32] at r129
            clear ha hU hD
            rw [if_pos (by simp [Region.wanted, yielded, r114])]
            go_simp
            exact hK _ hC (Below.refl _ _)
          · -- 34
            intro vs a W K ha hC hD hU hK
            have r114 : a.tmps[114]? = some (vs 17) := by rw [ha]; exact fillA_get0 (j := 17) (by kernel_rfl) (by rw [hsz]; decide)
            have q17 : vs 17 = .bool true := hD 17 (by simp [waits, Region.binds])
            rw [q17] at r114
            have r116 : a.tmps[116]? = some (vs 19) := by rw [ha]; exact fillA_get0 (j := 19) (by kernel_rfl) (by rw [hsz]; decide)
            have q19 : vs 19 = .bool c2 := hD 19 (by simp [waits, Region.binds])
            rw [q19] at r116
            have r130 : a.tmps[130]? = some (vs 33) := by rw [ha]; exact fillA_get0 (j := 33) (by kernel_rfl) (by rw [hsz]; decide)
            have q33 : vs 33 = .bool c2 := hD 33 (by simp [waits, Region.binds])
            rw [q33] at r130
            clear ha hU hD
            rw [if_pos (by simp [Region.wanted, yielded, r114])]
            go_simp
            exact hK _ hC (Below.refl _ _)
          · -- 35
            intro vs a W K ha hC hD hU hK
            have r114 : a.tmps[114]? = some (vs 17) := by rw [ha]; exact fillA_get0 (j := 17) (by kernel_rfl) (by rw [hsz]; decide)
            have q17 : vs 17 = .bool true := hD 17 (by simp [waits, Region.binds])
            rw [q17] at r114
            have r131 : a.tmps[131]? = some (vs 34) := by rw [ha]; exact fillA_get0 (j := 34) (by kernel_rfl) (by rw [hsz]; decide)
            have q34 : vs 34 = .bool true := hD 34 (by simp [waits, Region.binds])
            rw [q34] at r131
            clear ha hU hD
            rw [if_pos (by rfl)]
            go_simp
            exact hK _ hC (Below.refl _ _)
          · -- 36
            intro vs a W K ha hC hD hU hK
            have r132 : a.tmps[132]? = some (vs 35) := by rw [ha]; exact fillA_get0 (j := 35) (by kernel_rfl) (by rw [hsz]; decide)
            have q35 : vs 35 = .bool true := hD 35 (by simp [waits, Region.binds])
            rw [q35] at r132
            clear ha hU hD
            rw [if_pos (by rfl)]
            go_simp
            exact hK _ hC (Below.refl _ _)
          · -- 37
            intro vs a W K ha hC hD hU hK
            have r133 : a.tmps[133]? = some (vs 36) := by rw [ha]; exact fillA_get0 (j := 36) (by kernel_rfl) (by rw [hsz]; decide)
            have q36 : vs 36 = .bool true := hD 36 (by simp [waits, Region.binds])
            rw [q36] at r133
            have r16 : a.tmps[16]? = some (.int .i64 q1) := by rw [ha, fillA_base0 (by kernel_rfl)]; exact b16
            clear ha hU hD
            rw [if_pos (by simp [Region.wanted, yielded, r133])]
            go_simp
            exact hK _ hC (Below.refl _ _)
          · -- 38
            intro vs a W K ha hC hD hU hK
            have r133 : a.tmps[133]? = some (vs 36) := by rw [ha]; exact fillA_get0 (j := 36) (by kernel_rfl) (by rw [hsz]; decide)
            have q36 : vs 36 = .bool true := hD 36 (by simp [waits, Region.binds])
            rw [q36] at r133
            have r134 : a.tmps[134]? = some (vs 37) := by rw [ha]; exact fillA_get0 (j := 37) (by kernel_rfl) (by rw [hsz]; decide)
            have q37 : vs 37 = .int .i64 q1 := hD 37 (by simp [waits, Region.binds])
            rw [q37] at r134
            clear ha hU hD
            rw [if_pos (by simp [Region.wanted, yielded, r133])]
            go_simp
            exact hK _ hC (Below.refl _ _)
          · -- 39
            intro vs a W K ha hC hD hU hK
            have r133 : a.tmps[133]? = some (vs 36) := by rw [ha]; exact fillA_get0 (j := 36) (by kernel_rfl) (by rw [hsz]; decide)
            have q36 : vs 36 = .bool true := hD 36 (by simp [waits, Region.binds])
            rw [q36] at r133
            have r8 : a.tmps[8]? = some (.int .i64 an) := by rw [ha, fillA_base0 (by kernel_rfl)]; exact b8
            clear ha hU hD
            rw [if_pos (by simp [Region.wanted, yielded, r133])]
            go_simp
            exact hK _ hC (Below.refl _ _)
          · -- 40
            intro vs a W K ha hC hD hU hK
            have r133 : a.tmps[133]? = some (vs 36) := by rw [ha]; exact fillA_get0 (j := 36) (by kernel_rfl) (by rw [hsz]; decide)
            have q36 : vs 36 = .bool true := hD 36 (by simp [waits, Region.binds])
            rw [q36] at r133
            have r10 : a.tmps[10]? = some (.pointer (some ⟨g10, 0, none⟩)) := by rw [ha, fillA_base0 (by kernel_rfl)]; exact b10
            clear ha hU hD
            rw [if_pos (by simp [Region.wanted, yielded, r133])]
            obtain ⟨k0, k1, k2, k3⟩ := kl.out W hC
            go_simp
            exact hK _ hC (Below.refl _ _)
          · -- 41
            intro vs a W K ha hC hD hU hK
            have r133 : a.tmps[133]? = some (vs 36) := by rw [ha]; exact fillA_get0 (j := 36) (by kernel_rfl) (by rw [hsz]; decide)
            have q36 : vs 36 = .bool true := hD 36 (by simp [waits, Region.binds])
            rw [q36] at r133
            have r136 : a.tmps[136]? = some (vs 39) := by rw [ha]; exact fillA_get0 (j := 39) (by kernel_rfl) (by rw [hsz]; decide)
            have q39 : vs 39 = .int .i64 an := hD 39 (by simp [waits, Region.binds])
            rw [q39] at r136
            have r137 : a.tmps[137]? = some (vs 40) := by rw [ha]; exact fillA_get0 (j := 40) (by kernel_rfl) (by rw [hsz]; decide)
            have q40 : vs 40 = .agg #[.int .i64 lo, .int .i64 hi] := hD 40 (by simp [waits, Region.binds])
            rw [q40] at r137
            clear ha hU hD
            rw [if_pos (by simp [Region.wanted, yielded, r133])]
            go_simp
            refine (in40_any (an : Int) (lo : Int) (hi : Int) W).mono ?_
            rw [HBI.out]
            rintro e w' ⟨rfl, hb⟩
            exact hK _ (bl_call hC hb (Nat.le_refl _)) hb
          · -- 42
            intro vs a W K ha hC hD hU hK
            have r133 : a.tmps[133]? = some (vs 36) := by rw [ha]; exact fillA_get0 (j := 36) (by kernel_rfl) (by rw [hsz]; decide)
            have q36 : vs 36 = .bool true := hD 36 (by simp [waits, Region.binds])
            rw [q36] at r133
            have r135 : a.tmps[135]? = some (vs 38) := by rw [ha]; exact fillA_get0 (j := 38) (by kernel_rfl) (by rw [hsz]; decide)
            have q38 : vs 38 = .bool bi := hD 38 (by simp [waits, Region.binds])
            rw [q38] at r135
            have r138 : a.tmps[138]? = some (vs 41) := by rw [ha]; exact fillA_get0 (j := 41) (by kernel_rfl) (by rw [hsz]; decide)
            have q41 : vs 41 = .bool bi := hD 41 (by simp [waits, Region.binds])
            rw [q41] at r138
            clear ha hU hD
            rw [if_pos (by simp [Region.wanted, yielded, r133])]
            go_simp
            exact hK _ hC (Below.refl _ _)
          · -- 43
            intro vs a W K ha hC hD hU hK
            have r133 : a.tmps[133]? = some (vs 36) := by rw [ha]; exact fillA_get0 (j := 36) (by kernel_rfl) (by rw [hsz]; decide)
            have q36 : vs 36 = .bool true := hD 36 (by simp [waits, Region.binds])
            rw [q36] at r133
            have r139 : a.tmps[139]? = some (vs 42) := by rw [ha]; exact fillA_get0 (j := 42) (by kernel_rfl) (by rw [hsz]; decide)
            have q42 : vs 42 = .bool true := hD 42 (by simp [waits, Region.binds])
            rw [q42] at r139
            clear ha hU hD
            rw [if_pos (by rfl)]
            go_simp
            exact hK _ hC (Below.refl _ _)
          · -- 44
            intro vs a W K ha hC hD hU hK
            have r140 : a.tmps[140]? = some (vs 43) := by rw [ha]; exact fillA_get0 (j := 43) (by kernel_rfl) (by rw [hsz]; decide)
            have q43 : vs 43 = .bool true := hD 43 (by simp [waits, Region.binds])
            rw [q43] at r140
            clear ha hU hD
            rw [if_pos (by rfl)]
            go_simp
            exact hK _ hC (Below.refl _ _)
          · -- 45
            intro vs a W K ha hC hD hU hK
            have r141 : a.tmps[141]? = some (vs 44) := by rw [ha]; exact fillA_get0 (j := 44) (by kernel_rfl) (by rw [hsz]; decide)
            have q44 : vs 44 = .bool true := hD 44 (by simp [waits, Region.binds])
            rw [q44] at r141
            clear ha hU hD
            rw [if_pos (by simp [Region.wanted, yielded, r141])]
            go_simp
            refine (awake_any W).mono ?_
            rintro e w' ⟨rfl, hb⟩
            exact hK _ (bl_call hC hb (Nat.le_refl _)) hb
          · -- 46
            intro vs a W K ha hC hD hU hK
            have r141 : a.tmps[141]? = some (vs 44) := by rw [ha]; exact fillA_get0 (j := 44) (by kernel_rfl) (by rw [hsz]; decide)
            have q44 : vs 44 = .bool true := hD 44 (by simp [waits, Region.binds])
            rw [q44] at r141
            have r142 : a.tmps[142]? = some (vs 45) := by rw [ha]; exact fillA_get0 (j := 45) (by kernel_rfl) (by rw [hsz]; decide)
            have q45 : vs 45 = .bool true := hD 45 (by simp [waits, Region.binds])
            rw [q45] at r142
            clear ha hU hD
            rw [if_pos (by rfl)]
            go_simp
            exact hK _ hC (Below.refl _ _)
          · -- 47
            intro vs a W K ha hC hD hU hK
            have r143 : a.tmps[143]? = some (vs 46) := by rw [ha]; exact fillA_get0 (j := 46) (by kernel_rfl) (by rw [hsz]; decide)
            have q46 : vs 46 = .bool true := hD 46 (by simp [waits, Region.binds])
            rw [q46] at r143
            clear ha hU hD
            rw [if_pos (by rfl)]
            go_simp
            exact hK _ hC (Below.refl _ _)
        case finA =>
          refine Fin1.none (Nat.le_refl _) ?_
          intro vs W a1 hC hE ha
          have e0 : vs 47 = .bool true := hE 47 (by simp)
          have r0 : a1.tmps[6]? = some (vs 47) := by rw [ha]; exact fillA_get0 (j := 47) (by kernel_rfl) (by rw [hsz]; decide)
          have hdf1 : a1.defers = [] := by rw [ha, fillA_defers]; exact hdf
          rw [e0] at r0
          have hBF := bl_call HBF.out hC (Nat.le_refl _)
          clear ha hE hC e0
          go_simp
          go_wp2
          refine bodyPost_ret (results_tmp rfl _ _ _) hdf1 ?_
          exact ⟨by simp [r0], hBF⟩
      · have hbw : (w1 == 0) = false := by
          cases hb : (w1 == 0) with
          | false => rfl
          | true => exact absurd (k1.1 (by simpa using hb)).1 hge
        have hgd : decide ((lo : Int) ≤ alo) = false := decide_eq_false hge
        clear k1
        go_wp2_with fail
        refine wp_frame ?_
        intro a0 hsz hget hdf
        have b3 : a0.tmps[3]? = some (.pointer (some ⟨g0, 0, none⟩)) := (hget 3).trans (by kernel_rfl)
        have b8 : a0.tmps[8]? = some (.int .i64 an) := (hget 8).trans (by kernel_rfl)
        have b10 : a0.tmps[10]? = some (.pointer (some ⟨g10, 0, none⟩)) := (hget 10).trans (by kernel_rfl)
        have b12 : a0.tmps[12]? = some (.int .i64 w1) := (hget 12).trans (by kernel_rfl)
        have b16 : a0.tmps[16]? = some (.int .i64 q1) := (hget 16).trans (by kernel_rfl)
        replace hsz : a0.tmps.size = 144 := hsz.trans (by kernel_rfl)
        replace hdf : a0.defers = [] := hdf
        clear hget
        refine wp_region_list (fun W => Below V9.heap.size V9 W) (fun w w' => Below w.heap.size w w')
          [isV (.pointer (some ⟨g10, 0, none⟩)), isV (.int .i64 lo), isV (.pointer (some ⟨g10, 1, none⟩)), isV (.int .i64 hi), isV (.bool true), isV (.bool true), isV (.pointer (some ⟨g10, 0, none⟩)), isV (.int .i64 lo), isV (.agg #[.int .i64 0, .int .i64 40]), isV (.bool true), isV (.bool true), isV (.bool true), isV (.pointer (some ⟨g10, 1, none⟩)), isV (.int .i64 hi), isV (.agg #[.int .i64 0, .int .i64 40]), isV (.bool true), isV (.bool true), isV (.bool true), isV (.int .i64 w1), isV (.bool false), isV (.pointer (some ⟨g0, 0, none⟩)), isV (.pointer (some ⟨g0, 0, none⟩)), isV (.int .i64 alo), isV (.pointer (some ⟨g10, 0, none⟩)), isV (.int .i64 lo), isV (.bool false), isV (.bool false), isV (undef), isV (undef), isV (undef), isV (undef), isV (undef), isV (undef), isV (.bool false), isV (.bool true), isV (.bool true), isV (.bool true), isV (.int .i64 q1), isV (.bool bi), isV (.int .i64 an), isV (.agg #[.int .i64 lo, .int .i64 hi]), isV (.bool bi), isV (.bool true), isV (.bool true), isV (.bool true), isV (.bool true), isV (.bool true), isV (.bool true)]
          (by kernel_rfl) (by kernel_rfl) (by kernel_rfl) (by simp) (by simp) (Below.refl _ _).drew ?stabA ?stepA ?finA
        case stabA => exact (StabL.is (StabL.is (StabL.is (StabL.is (StabL.is (StabL.is (StabL.is (StabL.is (StabL.is (StabL.is (StabL.is (StabL.is (StabL.is (StabL.is (StabL.is (StabL.is (StabL.is (StabL.is (StabL.is (StabL.is (StabL.is (StabL.is (StabL.is (StabL.is (StabL.is (StabL.is (StabL.is (StabL.is (StabL.is (StabL.is (StabL.is (StabL.is (StabL.is (StabL.is (StabL.is (StabL.is (StabL.is (StabL.is (StabL.is (StabL.is (StabL.is (StabL.is (StabL.is (StabL.is (StabL.is (StabL.is (StabL.is (StabL.is StabL.nil))))))))))))))))))))))))))))))))))))))))))))))))
        case stepA =>
          refine StepsL.isA ?_ (StepsL.isA ?_ (StepsL.isA ?_ (StepsL.isA ?_ (StepsL.isA ?_ (StepsL.isA ?_ (StepsL.isA ?_ (StepsL.isA ?_ (StepsL.isA ?_ (StepsL.isA ?_ (StepsL.isA ?_ (StepsL.isA ?_ (StepsL.isA ?_ (StepsL.isA ?_ (StepsL.isA ?_ (StepsL.isA ?_ (StepsL.isA ?_ (StepsL.isA ?_ (StepsL.isA ?_ (StepsL.isA ?_ (StepsL.isA ?_ (StepsL.isA ?_ (StepsL.isA ?_ (StepsL.isA ?_ (StepsL.isA ?_ (StepsL.isA ?_ (StepsL.isA ?_ (StepsL.isA ?_ (StepsL.isA ?_ (StepsL.isA ?_ (StepsL.isA ?_ (StepsL.isA ?_ (StepsL.isA ?_ (StepsL.isA ?_ (StepsL.isA ?_ (StepsL.isA ?_ (StepsL.isA ?_ (StepsL.isA ?_ (StepsL.isA ?_ (StepsL.isA ?_ (StepsL.isA ?_ (StepsL.isA ?_ (StepsL.isA ?_ (StepsL.isA ?_ (StepsL.isA ?_ (StepsL.isA ?_ (StepsL.isA ?_ (StepsL.isA ?_ StepsL.nil)))))))))))))))))))))))))))))))))))))))))))))))
          · -- 0
            intro vs a W K ha hC hD hU hK
            have r10 : a.tmps[10]? = some (.pointer (some ⟨g10, 0, none⟩)) := by rw [ha, fillA_base0 (by kernel_rfl)]; exact b10
            clear ha hU hD
            rw [if_pos (by rfl)]
            go_simp
            exact hK _ hC (Below.refl _ _)
          · -- 1
            intro vs a W K ha hC hD hU hK
            have r97 : a.tmps[97]? = some (vs 0) := by rw [ha]; exact fillA_get0 (j := 0) (by kernel_rfl) (by rw [hsz]; decide)
            have q0 : vs 0 = .pointer (some ⟨g10, 0, none⟩) := hD 0 (by simp [waits, Region.binds])
            rw [q0] at r97
            clear ha hU hD
            rw [if_pos (by rfl)]
            obtain ⟨k0, k1, k2, k3⟩ := kl.out W hC
            go_simp
            exact hK _ hC (Below.refl _ _)
          · -- 2
            intro vs a W K ha hC hD hU hK
            have r10 : a.tmps[10]? = some (.pointer (some ⟨g10, 0, none⟩)) := by rw [ha, fillA_base0 (by kernel_rfl)]; exact b10
            clear ha hU hD
            rw [if_pos (by rfl)]
            go_simp
            exact hK _ hC (Below.refl _ _)
          · -- 3
            intro vs a W K ha hC hD hU hK
            have r99 : a.tmps[99]? = some (vs 2) := by rw [ha]; exact fillA_get0 (j := 2) (by kernel_rfl) (by rw [hsz]; decide)
            have q2 : vs 2 = .pointer (some ⟨g10, 1, none⟩) := hD 2 (by simp [waits, Region.binds])
            rw [q2] at r99
            clear ha hU hD
            rw [if_pos (by rfl)]
            obtain ⟨k0, k1, k2, k3⟩ := kl.out W hC
            go_simp
            exact hK _ hC (Below.refl _ _)
          · -- 4
            intro vs a W K ha hC hD hU hK
            have r98 : a.tmps[98]? = some (vs 1) := by rw [ha]; exact fillA_get0 (j := 1) (by kernel_rfl) (by rw [hsz]; decide)
            have q1 : vs 1 = .int .i64 lo := hD 1 (by simp [waits, Region.binds])
            rw [q1] at r98
            have r100 : a.tmps[100]? = some (vs 3) := by rw [ha]; exact fillA_get0 (j := 3) (by kernel_rfl) (by rw [hsz]; decide)
            have q3 : vs 3 = .int .i64 hi := hD 3 (by simp [waits, Region.binds])
            rw [q3] at r100
            clear ha hU hD
            rw [if_pos (by rfl)]
            go_simp
            exact hK _ hC (Below.refl _ _)
          · -- 5
            intro vs a W K ha hC hD hU hK
            have r101 : a.tmps[101]? = some (vs 4) := by rw [ha]; exact fillA_get0 (j := 4) (by kernel_rfl) (by rw [hsz]; decide)
            have q4 : vs 4 = .bool true := hD 4 (by simp [waits, Region.binds])
            rw [q4] at r101
            clear ha hU hD
            rw [if_pos (by rfl)]
            go_simp
            exact hK _ hC (Below.refl _ _)
          · -- 6
            intro vs a W K ha hC hD hU hK
            have r102 : a.tmps[102]? = some (vs 5) := by rw [ha]; exact fillA_get0 (j := 5) (by kernel_rfl) (by rw [hsz]; decide)
            have q5 : vs 5 = .bool true := hD 5 (by simp [waits, Region.binds])
            rw [q5] at r102
            have r10 : a.tmps[10]? = some (.pointer (some ⟨g10, 0, none⟩)) := by rw [ha, fillA_base0 (by kernel_rfl)]; exact b10
            clear ha hU hD
            rw [if_pos (by simp [Region.wanted, yielded, r102])]
            go_simp
            exact hK _ hC (Below.refl _ _)
          · -- 7
            intro vs a W K ha hC hD hU hK
            have r102 : a.tmps[102]? = some (vs 5) := by rw [ha]; exact fillA_get0 (j := 5) (by kernel_rfl) (by rw [hsz]; decide)
            have q5 : vs 5 = .bool true := hD 5 (by simp [waits, Region.binds])
            rw [q5] at r102
            have r103 : a.tmps[103]? = some (vs 6) := by rw [ha]; exact fillA_get0 (j := 6) (by kernel_rfl) (by rw [hsz]; decide)
            have q6 : vs 6 = .pointer (some ⟨g10, 0, none⟩) := hD 6 (by simp [waits, Region.binds])
            rw [q6] at r103
            clear ha hU hD
            rw [if_pos (by simp [Region.wanted, yielded, r102])]
            obtain ⟨k0, k1, k2, k3⟩ := kl.out W hC
            go_simp
            exact hK _ hC (Below.refl _ _)
          · -- 8
            intro vs a W K ha hC hD hU hK
            have r102 : a.tmps[102]? = some (vs 5) := by rw [ha]; exact fillA_get0 (j := 5) (by kernel_rfl) (by rw [hsz]; decide)
            have q5 : vs 5 = .bool true := hD 5 (by simp [waits, Region.binds])
            rw [q5] at r102
            clear ha hU hD
            rw [if_pos (by simp [Region.wanted, yielded, r102])]
            go_simp
            refine (span8_any 0 40 W).mono ?_
            rintro e w' ⟨rfl, hb⟩
            exact hK _ (bl_call hC hb (Nat.le_refl _)) hb
          · -- 9
            intro vs a W K ha hC hD hU hK
            have r102 : a.tmps[102]? = some (vs 5) := by rw [ha]; exact fillA_get0 (j := 5) (by kernel_rfl) (by rw [hsz]; decide)
            have q5 : vs 5 = .bool true := hD 5 (by simp [waits, Region.binds])
            rw [q5] at r102
            have r104 : a.tmps[104]? = some (vs 7) := by rw [ha]; exact fillA_get0 (j := 7) (by kernel_rfl) (by rw [hsz]; decide)
            have q7 : vs 7 = .int .i64 lo := hD 7 (by simp [waits, Region.binds])
            rw [q7] at r104
            have r105 : a.tmps[105]? = some (vs 8) := by rw [ha]; exact fillA_get0 (j := 8) (by kernel_rfl) (by rw [hsz]; decide)
            have q8 : vs 8 = .agg #[.int .i64 0, .int .i64 40] := hD 8 (by simp [waits, Region.binds])
            rw [q8] at r105
            clear ha hU hD
            rw [if_pos (by simp [Region.wanted, yielded, r102])]
            go_simp
            refine (in40_any (lo : Int) 0 40 W).mono ?_
            rw [HLO.out]
            rintro e w' ⟨rfl, hb⟩
            exact hK _ (bl_call hC hb (Nat.le_refl _)) hb
          · -- 10
            intro vs a W K ha hC hD hU hK
            have r102 : a.tmps[102]? = some (vs 5) := by rw [ha]; exact fillA_get0 (j := 5) (by kernel_rfl) (by rw [hsz]; decide)
            have q5 : vs 5 = .bool true := hD 5 (by simp [waits, Region.binds])
            rw [q5] at r102
            have r106 : a.tmps[106]? = some (vs 9) := by rw [ha]; exact fillA_get0 (j := 9) (by kernel_rfl) (by rw [hsz]; decide)
            have q9 : vs 9 = .bool true := hD 9 (by simp [waits, Region.binds])
            rw [q9] at r106
            clear ha hU hD
            rw [if_pos (by rfl)]
            go_simp
            exact hK _ hC (Below.refl _ _)
          · -- 11
            intro vs a W K ha hC hD hU hK
            have r107 : a.tmps[107]? = some (vs 10) := by rw [ha]; exact fillA_get0 (j := 10) (by kernel_rfl) (by rw [hsz]; decide)
            have q10 : vs 10 = .bool true := hD 10 (by simp [waits, Region.binds])
            rw [q10] at r107
            clear ha hU hD
            rw [if_pos (by rfl)]
            go_simp
            exact hK _ hC (Below.refl _ _)
          · -- 12
            intro vs a W K ha hC hD hU hK
            have r108 : a.tmps[108]? = some (vs 11) := by rw [ha]; exact fillA_get0 (j := 11) (by kernel_rfl) (by rw [hsz]; decide)
            have q11 : vs 11 = .bool true := hD 11 (by simp [waits, Region.binds])
            rw [q11] at r108
            have r10 : a.tmps[10]? = some (.pointer (some ⟨g10, 0, none⟩)) := by rw [ha, fillA_base0 (by kernel_rfl)]; exact b10
            clear ha hU hD
            rw [if_pos (by simp [Region.wanted, yielded, r108])]
            go_simp
            exact hK _ hC (Below.refl _ _)
          · -- 13
            intro vs a W K ha hC hD hU hK
            have r108 : a.tmps[108]? = some (vs 11) := by rw [ha]; exact fillA_get0 (j := 11) (by kernel_rfl) (by rw [hsz]; decide)
            have q11 : vs 11 = .bool true := hD 11 (by simp [waits, Region.binds])
            rw [q11] at r108
            have r109 : a.tmps[109]? = some (vs 12) := by rw [ha]; exact fillA_get0 (j := 12) (by kernel_rfl) (by rw [hsz]; decide)
            have q12 : vs 12 = .pointer (some ⟨g10, 1, none⟩) := hD 12 (by simp [waits, Region.binds])
            rw [q12] at r109
            clear ha hU hD
            rw [if_pos (by simp [Region.wanted, yielded, r108])]
            obtain ⟨k0, k1, k2, k3⟩ := kl.out W hC
            go_simp
            exact hK _ hC (Below.refl _ _)
          · -- 14
            intro vs a W K ha hC hD hU hK
            have r108 : a.tmps[108]? = some (vs 11) := by rw [ha]; exact fillA_get0 (j := 11) (by kernel_rfl) (by rw [hsz]; decide)
            have q11 : vs 11 = .bool true := hD 11 (by simp [waits, Region.binds])
            rw [q11] at r108
            clear ha hU hD
            rw [if_pos (by simp [Region.wanted, yielded, r108])]
            go_simp
            refine (span8_any 0 40 W).mono ?_
            rintro e w' ⟨rfl, hb⟩
            exact hK _ (bl_call hC hb (Nat.le_refl _)) hb
          · -- 15
            intro vs a W K ha hC hD hU hK
            have r108 : a.tmps[108]? = some (vs 11) := by rw [ha]; exact fillA_get0 (j := 11) (by kernel_rfl) (by rw [hsz]; decide)
            have q11 : vs 11 = .bool true := hD 11 (by simp [waits, Region.binds])
            rw [q11] at r108
            have r110 : a.tmps[110]? = some (vs 13) := by rw [ha]; exact fillA_get0 (j := 13) (by kernel_rfl) (by rw [hsz]; decide)
            have q13 : vs 13 = .int .i64 hi := hD 13 (by simp [waits, Region.binds])
            rw [q13] at r110
            have r111 : a.tmps[111]? = some (vs 14) := by rw [ha]; exact fillA_get0 (j := 14) (by kernel_rfl) (by rw [hsz]; decide)
            have q14 : vs 14 = .agg #[.int .i64 0, .int .i64 40] := hD 14 (by simp [waits, Region.binds])
            rw [q14] at r111
            clear ha hU hD
            rw [if_pos (by simp [Region.wanted, yielded, r108])]
            go_simp
            refine (in40_any (hi : Int) 0 40 W).mono ?_
            rw [HHI.out]
            rintro e w' ⟨rfl, hb⟩
            exact hK _ (bl_call hC hb (Nat.le_refl _)) hb
          · -- 16
            intro vs a W K ha hC hD hU hK
            have r108 : a.tmps[108]? = some (vs 11) := by rw [ha]; exact fillA_get0 (j := 11) (by kernel_rfl) (by rw [hsz]; decide)
            have q11 : vs 11 = .bool true := hD 11 (by simp [waits, Region.binds])
            rw [q11] at r108
            have r112 : a.tmps[112]? = some (vs 15) := by rw [ha]; exact fillA_get0 (j := 15) (by kernel_rfl) (by rw [hsz]; decide)
            have q15 : vs 15 = .bool true := hD 15 (by simp [waits, Region.binds])
            rw [q15] at r112
            clear ha hU hD
            rw [if_pos (by rfl)]
            go_simp
            exact hK _ hC (Below.refl _ _)
          · -- 17
            intro vs a W K ha hC hD hU hK
            have r113 : a.tmps[113]? = some (vs 16) := by rw [ha]; exact fillA_get0 (j := 16) (by kernel_rfl) (by rw [hsz]; decide)
            have q16 : vs 16 = .bool true := hD 16 (by simp [waits, Region.binds])
            rw [q16] at r113
            clear ha hU hD
            rw [if_pos (by rfl)]
            go_simp
            exact hK _ hC (Below.refl _ _)
          · -- 18
            intro vs a W K ha hC hD hU hK
            have r114 : a.tmps[114]? = some (vs 17) := by rw [ha]; exact fillA_get0 (j := 17) (by kernel_rfl) (by rw [hsz]; decide)
            have q17 : vs 17 = .bool true := hD 17 (by simp [waits, Region.binds])
            rw [q17] at r114
            have r12 : a.tmps[12]? = some (.int .i64 w1) := by rw [ha, fillA_base0 (by kernel_rfl)]; exact b12
            clear ha hU hD
            rw [if_pos (by simp [Region.wanted, yielded, r114])]
            go_simp
            exact hK _ hC (Below.refl _ _)
          · -- 19
            intro vs a W K ha hC hD hU hK
            have r114 : a.tmps[114]? = some (vs 17) := by rw [ha]; exact fillA_get0 (j := 17) (by kernel_rfl) (by rw [hsz]; decide)
            have q17 : vs 17 = .bool true := hD 17 (by simp [waits, Region.binds])
            rw [q17] at r114
            have r115 : a.tmps[115]? = some (vs 18) := by rw [ha]; exact fillA_get0 (j := 18) (by kernel_rfl) (by rw [hsz]; decide)
            have q18 : vs 18 = .int .i64 w1 := hD 18 (by simp [waits, Region.binds])
            rw [q18] at r115
            clear ha hU hD
            rw [if_pos (by simp [Region.wanted, yielded, r114])]
            go_simp
            exact hK _ hC (Below.refl _ _)
          · -- 20
            intro vs a W K ha hC hD hU hK
            have r114 : a.tmps[114]? = some (vs 17) := by rw [ha]; exact fillA_get0 (j := 17) (by kernel_rfl) (by rw [hsz]; decide)
            have q17 : vs 17 = .bool true := hD 17 (by simp [waits, Region.binds])
            rw [q17] at r114
            have r3 : a.tmps[3]? = some (.pointer (some ⟨g0, 0, none⟩)) := by rw [ha, fillA_base0 (by kernel_rfl)]; exact b3
            clear ha hU hD
            rw [if_pos (by simp [Region.wanted, yielded, r114])]
            go_simp
            exact hK _ hC (Below.refl _ _)
          · -- 21
            intro vs a W K ha hC hD hU hK
            have r114 : a.tmps[114]? = some (vs 17) := by rw [ha]; exact fillA_get0 (j := 17) (by kernel_rfl) (by rw [hsz]; decide)
            have q17 : vs 17 = .bool true := hD 17 (by simp [waits, Region.binds])
            rw [q17] at r114
            have r117 : a.tmps[117]? = some (vs 20) := by rw [ha]; exact fillA_get0 (j := 20) (by kernel_rfl) (by rw [hsz]; decide)
            have q20 : vs 20 = .pointer (some ⟨g0, 0, none⟩) := hD 20 (by simp [waits, Region.binds])
            rw [q20] at r117
            clear ha hU hD
            rw [if_pos (by simp [Region.wanted, yielded, r114])]
            go_simp
            exact hK _ hC (Below.refl _ _)
          · -- 22
            intro vs a W K ha hC hD hU hK
            have r114 : a.tmps[114]? = some (vs 17) := by rw [ha]; exact fillA_get0 (j := 17) (by kernel_rfl) (by rw [hsz]; decide)
            have q17 : vs 17 = .bool true := hD 17 (by simp [waits, Region.binds])
            rw [q17] at r114
            have r118 : a.tmps[118]? = some (vs 21) := by rw [ha]; exact fillA_get0 (j := 21) (by kernel_rfl) (by rw [hsz]; decide)
            have q21 : vs 21 = .pointer (some ⟨g0, 0, none⟩) := hD 21 (by simp [waits, Region.binds])
            rw [q21] at r118
            clear ha hU hD
            rw [if_pos (by simp [Region.wanted, yielded, r114])]
            obtain ⟨k0, k1, k2, k3⟩ := kl.out W hC
            go_simp
            exact hK _ hC (Below.refl _ _)
          · -- 23
            intro vs a W K ha hC hD hU hK
            have r114 : a.tmps[114]? = some (vs 17) := by rw [ha]; exact fillA_get0 (j := 17) (by kernel_rfl) (by rw [hsz]; decide)
            have q17 : vs 17 = .bool true := hD 17 (by simp [waits, Region.binds])
            rw [q17] at r114
            have r10 : a.tmps[10]? = some (.pointer (some ⟨g10, 0, none⟩)) := by rw [ha, fillA_base0 (by kernel_rfl)]; exact b10
            clear ha hU hD
            rw [if_pos (by simp [Region.wanted, yielded, r114])]
            go_simp
            exact hK _ hC (Below.refl _ _)
          · -- 24
            intro vs a W K ha hC hD hU hK
            have r114 : a.tmps[114]? = some (vs 17) := by rw [ha]; exact fillA_get0 (j := 17) (by kernel_rfl) (by rw [hsz]; decide)
            have q17 : vs 17 = .bool true := hD 17 (by simp [waits, Region.binds])
            rw [q17] at r114
            have r120 : a.tmps[120]? = some (vs 23) := by rw [ha]; exact fillA_get0 (j := 23) (by kernel_rfl) (by rw [hsz]; decide)
            have q23 : vs 23 = .pointer (some ⟨g10, 0, none⟩) := hD 23 (by simp [waits, Region.binds])
            rw [q23] at r120
            clear ha hU hD
            rw [if_pos (by simp [Region.wanted, yielded, r114])]
            obtain ⟨k0, k1, k2, k3⟩ := kl.out W hC
            go_simp
            exact hK _ hC (Below.refl _ _)
          · -- 25
            intro vs a W K ha hC hD hU hK
            have r114 : a.tmps[114]? = some (vs 17) := by rw [ha]; exact fillA_get0 (j := 17) (by kernel_rfl) (by rw [hsz]; decide)
            have q17 : vs 17 = .bool true := hD 17 (by simp [waits, Region.binds])
            rw [q17] at r114
            have r119 : a.tmps[119]? = some (vs 22) := by rw [ha]; exact fillA_get0 (j := 22) (by kernel_rfl) (by rw [hsz]; decide)
            have q22 : vs 22 = .int .i64 alo := hD 22 (by simp [waits, Region.binds])
            rw [q22] at r119
            have r121 : a.tmps[121]? = some (vs 24) := by rw [ha]; exact fillA_get0 (j := 24) (by kernel_rfl) (by rw [hsz]; decide)
            have q24 : vs 24 = .int .i64 lo := hD 24 (by simp [waits, Region.binds])
            rw [q24] at r121
            clear ha hU hD
            rw [if_pos (by simp [Region.wanted, yielded, r114])]
            go_simp
            exact hK _ hC (Below.refl _ _)
          · -- 26
            intro vs a W K ha hC hD hU hK
            have r114 : a.tmps[114]? = some (vs 17) := by rw [ha]; exact fillA_get0 (j := 17) (by kernel_rfl) (by rw [hsz]; decide)
            have q17 : vs 17 = .bool true := hD 17 (by simp [waits, Region.binds])
            rw [q17] at r114
            have r122 : a.tmps[122]? = some (vs 25) := by rw [ha]; exact fillA_get0 (j := 25) (by kernel_rfl) (by rw [hsz]; decide)
            have q25 : vs 25 = .bool false := hD 25 (by simp [waits, Region.binds])
            rw [q25] at r122
            clear ha hU hD
            rw [if_pos (by simp [Region.wanted, yielded, r114])]
            go_simp
            exact hK _ hC (Below.refl _ _)
          · -- 27
            intro vs a W K ha hC hD hU hK
            have r123 : a.tmps[123]? = some (vs 26) := by rw [ha]; exact fillA_get0 (j := 26) (by kernel_rfl) (by rw [hsz]; decide)
            have q26 : vs 26 = .bool false := hD 26 (by simp [waits, Region.binds])
            rw [q26] at r123
            clear ha hU hD
            rw [if_neg (by simp [Region.wanted, yielded, r123])]
          · -- 28
            intro vs a W K ha hC hD hU hK
            have r123 : a.tmps[123]? = some (vs 26) := by rw [ha]; exact fillA_get0 (j := 26) (by kernel_rfl) (by rw [hsz]; decide)
            have q26 : vs 26 = .bool false := hD 26 (by simp [waits, Region.binds])
            rw [q26] at r123
            clear ha hU hD
            rw [if_neg (by simp [Region.wanted, yielded, r123])]
          · -- 29
            intro vs a W K ha hC hD hU hK
            have r123 : a.tmps[123]? = some (vs 26) := by rw [ha]; exact fillA_get0 (j := 26) (by kernel_rfl) (by rw [hsz]; decide)
            have q26 : vs 26 = .bool false := hD 26 (by simp [waits, Region.binds])
            rw [q26] at r123
            clear ha hU hD
            rw [if_neg (by simp [Region.wanted, yielded, r123])]
          · -- 30
            intro vs a W K ha hC hD hU hK
            have r123 : a.tmps[123]? = some (vs 26) := by rw [ha]; exact fillA_get0 (j := 26) (by kernel_rfl) (by rw [hsz]; decide)
            have q26 : vs 26 = .bool false := hD 26 (by simp [waits, Region.binds])
            rw [q26] at r123
            clear ha hU hD
            rw [if_neg (by simp [Region.wanted, yielded, r123])]
          · -- 31
            intro vs a W K ha hC hD hU hK
            have r123 : a.tmps[123]? = some (vs 26) := by rw [ha]; exact fillA_get0 (j := 26) (by kernel_rfl) (by rw [hsz]; decide)
            have q26 : vs 26 = .bool false := hD 26 (by simp [waits, Region.binds])
            rw [q26] at r123
            clear ha hU hD
            rw [if_neg (by simp [Region.wanted, yielded, r123])]
          · -- 32
            intro vs a W K ha hC hD hU hK
            have r123 : a.tmps[123]? = some (vs 26) := by rw [ha]; exact fillA_get0 (j := 26) (by kernel_rfl) (by rw [hsz]; decide)
            have q26 : vs 26 = .bool false := hD 26 (by simp [waits, Region.binds])
            rw [q26] at r123
            clear ha hU hD
            rw [if_neg (by simp [Region.wanted, yielded, r123])]
          · -- 33
            intro vs a W K ha hC hD hU hK
            have r114 : a.tmps[114]? = some (vs 17) := by rw [ha]; exact fillA_get0 (j := 17) (by kernel_rfl) (by rw [hsz]; decide)
            have q17 : vs 17 = .bool true := hD 17 (by simp [waits, Region.binds])
            rw [q17] at r114
            have r123 : a.tmps[123]? = some (vs 26) := by rw [ha]; exact fillA_get0 (j := 26) (by kernel_rfl) (by rw [hsz]; decide)
            have q26 : vs 26 = .bool false := hD 26 (by simp [waits, Region.binds])
            rw [q26] at r123
            have r129 : a.tmps[129]? = some (vs 32) := by rw [ha]; exact fillA_get0 (j := 32) (by kernel_rfl) (by rw [hsz]; decide)
            have q32 : vs 32 = undef := hD 32 (by simp [waits, Region.binds])
            rw [q32] at r129
            clear ha hU hD
            rw [if_pos (by simp [Region.wanted, yielded, r114])]
            go_simp
            exact hK _ hC (Below.refl _ _)
          · -- 34
            intro vs a W K ha hC hD hU hK
            have r114 : a.tmps[114]? = some (vs 17) := by rw [ha]; exact fillA_get0 (j := 17) (by kernel_rfl) (by rw [hsz]; decide)
            have q17 : vs 17 = .bool true := hD 17 (by simp [waits, Region.binds])
            rw [q17] at r114
            have r116 : a.tmps[116]? = some (vs 19) := by rw [ha]; exact fillA_get0 (j := 19) (by kernel_rfl) (by rw [hsz]; decide)
            have q19 : vs 19 = .bool false := hD 19 (by simp [waits, Region.binds])
            rw [q19] at r116
            have r130 : a.tmps[130]? = some (vs 33) := by rw [ha]; exact fillA_get0 (j := 33) (by kernel_rfl) (by rw [hsz]; decide)
            have q33 : vs 33 = .bool false := hD 33 (by simp [waits, Region.binds])
            rw [q33] at r130
            clear ha hU hD
            rw [if_pos (by simp [Region.wanted, yielded, r114])]
            go_simp
            exact hK _ hC (Below.refl _ _)
          · -- 35
            intro vs a W K ha hC hD hU hK
            have r114 : a.tmps[114]? = some (vs 17) := by rw [ha]; exact fillA_get0 (j := 17) (by kernel_rfl) (by rw [hsz]; decide)
            have q17 : vs 17 = .bool true := hD 17 (by simp [waits, Region.binds])
            rw [q17] at r114
            have r131 : a.tmps[131]? = some (vs 34) := by rw [ha]; exact fillA_get0 (j := 34) (by kernel_rfl) (by rw [hsz]; decide)
            have q34 : vs 34 = .bool true := hD 34 (by simp [waits, Region.binds])
            rw [q34] at r131
            clear ha hU hD
            rw [if_pos (by rfl)]
            go_simp
            exact hK _ hC (Below.refl _ _)
          · -- 36
            intro vs a W K ha hC hD hU hK
            have r132 : a.tmps[132]? = some (vs 35) := by rw [ha]; exact fillA_get0 (j := 35) (by kernel_rfl) (by rw [hsz]; decide)
            have q35 : vs 35 = .bool true := hD 35 (by simp [waits, Region.binds])
            rw [q35] at r132
            clear ha hU hD
            rw [if_pos (by rfl)]
            go_simp
            exact hK _ hC (Below.refl _ _)
          · -- 37
            intro vs a W K ha hC hD hU hK
            have r133 : a.tmps[133]? = some (vs 36) := by rw [ha]; exact fillA_get0 (j := 36) (by kernel_rfl) (by rw [hsz]; decide)
            have q36 : vs 36 = .bool true := hD 36 (by simp [waits, Region.binds])
            rw [q36] at r133
            have r16 : a.tmps[16]? = some (.int .i64 q1) := by rw [ha, fillA_base0 (by kernel_rfl)]; exact b16
            clear ha hU hD
            rw [if_pos (by simp [Region.wanted, yielded, r133])]
            go_simp
            exact hK _ hC (Below.refl _ _)
          · -- 38
            intro vs a W K ha hC hD hU hK
            have r133 : a.tmps[133]? = some (vs 36) := by rw [ha]; exact fillA_get0 (j := 36) (by kernel_rfl) (by rw [hsz]; decide)
            have q36 : vs 36 = .bool true := hD 36 (by simp [waits, Region.binds])
            rw [q36] at r133
            have r134 : a.tmps[134]? = some (vs 37) := by rw [ha]; exact fillA_get0 (j := 37) (by kernel_rfl) (by rw [hsz]; decide)
            have q37 : vs 37 = .int .i64 q1 := hD 37 (by simp [waits, Region.binds])
            rw [q37] at r134
            clear ha hU hD
            rw [if_pos (by simp [Region.wanted, yielded, r133])]
            go_simp
            exact hK _ hC (Below.refl _ _)
          · -- 39
            intro vs a W K ha hC hD hU hK
            have r133 : a.tmps[133]? = some (vs 36) := by rw [ha]; exact fillA_get0 (j := 36) (by kernel_rfl) (by rw [hsz]; decide)
            have q36 : vs 36 = .bool true := hD 36 (by simp [waits, Region.binds])
            rw [q36] at r133
            have r8 : a.tmps[8]? = some (.int .i64 an) := by rw [ha, fillA_base0 (by kernel_rfl)]; exact b8
            clear ha hU hD
            rw [if_pos (by simp [Region.wanted, yielded, r133])]
            go_simp
            exact hK _ hC (Below.refl _ _)
          · -- 40
            intro vs a W K ha hC hD hU hK
            have r133 : a.tmps[133]? = some (vs 36) := by rw [ha]; exact fillA_get0 (j := 36) (by kernel_rfl) (by rw [hsz]; decide)
            have q36 : vs 36 = .bool true := hD 36 (by simp [waits, Region.binds])
            rw [q36] at r133
            have r10 : a.tmps[10]? = some (.pointer (some ⟨g10, 0, none⟩)) := by rw [ha, fillA_base0 (by kernel_rfl)]; exact b10
            clear ha hU hD
            rw [if_pos (by simp [Region.wanted, yielded, r133])]
            obtain ⟨k0, k1, k2, k3⟩ := kl.out W hC
            go_simp
            exact hK _ hC (Below.refl _ _)
          · -- 41
            intro vs a W K ha hC hD hU hK
            have r133 : a.tmps[133]? = some (vs 36) := by rw [ha]; exact fillA_get0 (j := 36) (by kernel_rfl) (by rw [hsz]; decide)
            have q36 : vs 36 = .bool true := hD 36 (by simp [waits, Region.binds])
            rw [q36] at r133
            have r136 : a.tmps[136]? = some (vs 39) := by rw [ha]; exact fillA_get0 (j := 39) (by kernel_rfl) (by rw [hsz]; decide)
            have q39 : vs 39 = .int .i64 an := hD 39 (by simp [waits, Region.binds])
            rw [q39] at r136
            have r137 : a.tmps[137]? = some (vs 40) := by rw [ha]; exact fillA_get0 (j := 40) (by kernel_rfl) (by rw [hsz]; decide)
            have q40 : vs 40 = .agg #[.int .i64 lo, .int .i64 hi] := hD 40 (by simp [waits, Region.binds])
            rw [q40] at r137
            clear ha hU hD
            rw [if_pos (by simp [Region.wanted, yielded, r133])]
            go_simp
            refine (in40_any (an : Int) (lo : Int) (hi : Int) W).mono ?_
            rw [HBI.out]
            rintro e w' ⟨rfl, hb⟩
            exact hK _ (bl_call hC hb (Nat.le_refl _)) hb
          · -- 42
            intro vs a W K ha hC hD hU hK
            have r133 : a.tmps[133]? = some (vs 36) := by rw [ha]; exact fillA_get0 (j := 36) (by kernel_rfl) (by rw [hsz]; decide)
            have q36 : vs 36 = .bool true := hD 36 (by simp [waits, Region.binds])
            rw [q36] at r133
            have r135 : a.tmps[135]? = some (vs 38) := by rw [ha]; exact fillA_get0 (j := 38) (by kernel_rfl) (by rw [hsz]; decide)
            have q38 : vs 38 = .bool bi := hD 38 (by simp [waits, Region.binds])
            rw [q38] at r135
            have r138 : a.tmps[138]? = some (vs 41) := by rw [ha]; exact fillA_get0 (j := 41) (by kernel_rfl) (by rw [hsz]; decide)
            have q41 : vs 41 = .bool bi := hD 41 (by simp [waits, Region.binds])
            rw [q41] at r138
            clear ha hU hD
            rw [if_pos (by simp [Region.wanted, yielded, r133])]
            go_simp
            exact hK _ hC (Below.refl _ _)
          · -- 43
            intro vs a W K ha hC hD hU hK
            have r133 : a.tmps[133]? = some (vs 36) := by rw [ha]; exact fillA_get0 (j := 36) (by kernel_rfl) (by rw [hsz]; decide)
            have q36 : vs 36 = .bool true := hD 36 (by simp [waits, Region.binds])
            rw [q36] at r133
            have r139 : a.tmps[139]? = some (vs 42) := by rw [ha]; exact fillA_get0 (j := 42) (by kernel_rfl) (by rw [hsz]; decide)
            have q42 : vs 42 = .bool true := hD 42 (by simp [waits, Region.binds])
            rw [q42] at r139
            clear ha hU hD
            rw [if_pos (by rfl)]
            go_simp
            exact hK _ hC (Below.refl _ _)
          · -- 44
            intro vs a W K ha hC hD hU hK
            have r140 : a.tmps[140]? = some (vs 43) := by rw [ha]; exact fillA_get0 (j := 43) (by kernel_rfl) (by rw [hsz]; decide)
            have q43 : vs 43 = .bool true := hD 43 (by simp [waits, Region.binds])
            rw [q43] at r140
            clear ha hU hD
            rw [if_pos (by rfl)]
            go_simp
            exact hK _ hC (Below.refl _ _)
          · -- 45
            intro vs a W K ha hC hD hU hK
            have r141 : a.tmps[141]? = some (vs 44) := by rw [ha]; exact fillA_get0 (j := 44) (by kernel_rfl) (by rw [hsz]; decide)
            have q44 : vs 44 = .bool true := hD 44 (by simp [waits, Region.binds])
            rw [q44] at r141
            clear ha hU hD
            rw [if_pos (by simp [Region.wanted, yielded, r141])]
            go_simp
            refine (awake_any W).mono ?_
            rintro e w' ⟨rfl, hb⟩
            exact hK _ (bl_call hC hb (Nat.le_refl _)) hb
          · -- 46
            intro vs a W K ha hC hD hU hK
            have r141 : a.tmps[141]? = some (vs 44) := by rw [ha]; exact fillA_get0 (j := 44) (by kernel_rfl) (by rw [hsz]; decide)
            have q44 : vs 44 = .bool true := hD 44 (by simp [waits, Region.binds])
            rw [q44] at r141
            have r142 : a.tmps[142]? = some (vs 45) := by rw [ha]; exact fillA_get0 (j := 45) (by kernel_rfl) (by rw [hsz]; decide)
            have q45 : vs 45 = .bool true := hD 45 (by simp [waits, Region.binds])
            rw [q45] at r142
            clear ha hU hD
            rw [if_pos (by rfl)]
            go_simp
            exact hK _ hC (Below.refl _ _)
          · -- 47
            intro vs a W K ha hC hD hU hK
            have r143 : a.tmps[143]? = some (vs 46) := by rw [ha]; exact fillA_get0 (j := 46) (by kernel_rfl) (by rw [hsz]; decide)
            have q46 : vs 46 = .bool true := hD 46 (by simp [waits, Region.binds])
            rw [q46] at r143
            clear ha hU hD
            rw [if_pos (by rfl)]
            go_simp
            exact hK _ hC (Below.refl _ _)
        case finA =>
          refine Fin1.none (Nat.le_refl _) ?_
          intro vs W a1 hC hE ha
          have e0 : vs 47 = .bool true := hE 47 (by simp)
          have r0 : a1.tmps[6]? = some (vs 47) := by rw [ha]; exact fillA_get0 (j := 47) (by kernel_rfl) (by rw [hsz]; decide)
          have hdf1 : a1.defers = [] := by rw [ha, fillA_defers]; exact hdf
          rw [e0] at r0
          have hBF := bl_call HBF.out hC (Nat.le_refl _)
          clear ha hE hC e0
          go_simp
          go_wp2
          refine bodyPost_ret (results_tmp rfl _ _ _) hdf1 ?_
          exact ⟨by simp [r0], hBF⟩

end Go.Proofs.Ytpbimgafafkjgaa
