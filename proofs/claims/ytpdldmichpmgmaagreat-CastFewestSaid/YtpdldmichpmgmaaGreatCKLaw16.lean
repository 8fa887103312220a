/- Walks, layer 7: the law CastFewest. -/
import Derived.Test.YtpdldmichpmgmaaGreatCKLaw4
import Derived.Test.YtpdldmichpmgmaaGreatCKOut4
import Derived.Test.YtpdldmichpmgmaaGreatCKOuts
import Derived.Test.YtpdldmichpmgmaaGreatCKRefM
import Derived.Test.YtpdldmichpmgmaaGreatCKRefS
import Derived.Test.YtpdldmichpmgmaaGreatCKTold
set_option linter.unusedVariables false
set_option linter.unusedSimpArgs false
set_option linter.all false
namespace Go.Proofs.YtpdldmichpmgmaaGreat
open Go.RowKit Go.Shelf

set_option maxRecDepth 100000 in
set_option maxHeartbeats 8000000 in
theorem fewestLaw_any {A XA XB O : Option Addr} {n ca xn xc xm xd m od bits : Nat} {s : Shop} {klo khi : Int} {xs ys : List Nat} {p : List (Int × Int)} (w : World) (g : Moulds (fun _ => True) w A n s.moulds) (hX : Bytes (fun _ => True) w XA xn xs) (hY : Bytes (fun _ => True) w XB xm ys) (hP : Pairs (fun _ => True) w O m p) (hbits : bits < 256) (hca : n ≤ ca) (h1 : s.klo = klo) (h2 : s.khi = khi) :
    Calls Tryz.prog 5 #[.agg #[.int .i64 klo, .int .i64 khi, .slice A n ca], .agg #[.slice XA xn xc, .slice XB xm xd, .slice O m od], .int .u8 bits] w fun e w' => e = .returned (.bool true) ∧ Below w.heap.size w w' := by
  obtain ⟨W, hW⟩ : ∃ W, (w.alloc (.cells #[.int .i64 klo, .int .i64 khi, .slice A n ca] 26)).alloc (.cells #[.slice XA xn xc, .slice XB xm xd, .slice O m od] 44) = W := ⟨_, rfl⟩
  have X : Blk W w.heap.size 26 #[.int .i64 klo, .int .i64 khi, .slice A n ca] := by rw [← hW]; exact (Blk.new _ _ _ rfl).alloc _
  have Z : Blk W (w.heap.size + 1) 44 #[.slice XA xn xc, .slice XB xm xd, .slice O m od] := by rw [← hW]; exact Blk.new _ _ _ (by simp)
  have hBW : Below w.heap.size w W := by rw [← hW]; exact bl_alloc (bl_alloc (Below.refl _ _) _ (Nat.le_refl _)) _ (Nat.le_refl _)
  have HG : Hid (∀ V, Below W.heap.size W V → Moulds (fun _ => True) V A n s.moulds) := fun V hb => (g.keep MouldR.good (Keeps.below hBW)).keep MouldR.good (Keeps.below hb)
  have HXS : Hid (∀ V, Below W.heap.size W V → Bytes (fun _ => True) V XA xn xs) := fun V hb => (hX.keep ByteR.good (Keeps.below hBW)).keep ByteR.good (Keeps.below hb)
  have HYS : Hid (∀ V, Below W.heap.size W V → Bytes (fun _ => True) V XB xm ys) := fun V hb => (hY.keep ByteR.good (Keeps.below hBW)).keep ByteR.good (Keeps.below hb)
  have HPS : Hid (∀ V, Below W.heap.size W V → Pairs (fun _ => True) V O m p) := fun V hb => (hP.keep PairR.good (Keeps.below hBW)).keep PairR.good (Keeps.below hb)
  have kk : Hid (∀ V, Below W.heap.size W V → V.cell? ⟨w.heap.size, 0, none⟩ = some (.int .i64 klo) ∧ V.cell? ⟨w.heap.size, 1, none⟩ = some (.int .i64 khi) ∧ V.cell? ⟨w.heap.size, 2, none⟩ = some (.slice A n ca) ∧ V.cell? ⟨w.heap.size + 1, 0, none⟩ = some (.slice XA xn xc) ∧ V.cell? ⟨w.heap.size + 1, 1, none⟩ = some (.slice XB xm xd) ∧ V.cell? ⟨w.heap.size + 1, 2, none⟩ = some (.slice O m od)) :=
    fun V hb => ⟨(X.bl hb).cell 0, (X.bl hb).cell 1, (X.bl hb).cell 2, (Z.bl hb).cell 0, (Z.bl hb).cell 1, (Z.bl hb).cell 2⟩
  have Hn := Lib.hid g.len
  have Hm := Lib.hid hP.len
  have hnl := g.le
  have hml := hP.le
  clear X Z g hX hY hP
  obtain ⟨x0, x1, x2, y0, y1, y2⟩ := kk.out W (Below.refl _ _)
  go_enter Tryz.func5, Tryz.ntmps5
  go_wp2_with fail
  clear hW x0 x1 x2 y0 y1 y2
  obtain ⟨WW, hWW⟩ : ∃ V, V = W := ⟨_, rfl⟩
  subst hWW
  refine (valid7_any WW (HG.out WW (Below.refl _ _)) h1 h2).mono ?_
  rintro e V1 ⟨rfl, b1⟩
  by_cases he : err7 s = 0
  · have heb : (err7 s == 0) = true := by rw [he]; rfl
    rw [heb]
    have HE : Hid ((check7 s).2.2 = 0) := he
    have hok := okS_of HE.out
    have HOK := Lib.hid hok
    have HTR := Lib.hid (any_truth hok xs)
    obtain ⟨k0, hk0⟩ : ∃ x, anyS7 s xs = x := ⟨_, rfl⟩
    obtain ⟨tw, htw⟩ : ∃ x, anyT7 s xs = x := ⟨_, rfl⟩
    rw [hk0, htw] at HTR
    have HBD := Lib.hid (truth_bd hok HTR.out)
    have HKB := Lib.hid (truth_k hok HTR.out)
    obtain ⟨l, hl⟩ : ∃ x, toldL7 s k0 tw ys = x := ⟨_, rfl⟩
    have HSI : Hid (∀ y ∈ l, SeenIn s k0 tw y) := by rw [← hl]; exact toldL_seen hok HTR.out ys
    have HL6 : Hid (l.length ≤ 6) := by rw [← hl]; exact toldL_len _ _ _ _
    have HA : Hid (∀ V, Below WW.heap.size WW V → Calls Tryz.prog 17 #[.agg #[.int .i64 klo, .int .i64 khi, .slice A n ca], .slice XA xn xc] V fun e w' => (∃ v, e = .returned v ∧ TruthV V.heap.size k0 tw v w') ∧ Below V.heap.size V w') := fun V hb => by
      have := any7_any (ca := ca) (cc := xc) V (HG.out V hb) (HXS.out V hb) h1 h2 HOK.out
      rw [hk0, htw] at this
      exact this.mono fun e w' h => ⟨TruthV.of h.1, h.2⟩
    have HT : Hid (∀ (V : World) (B : Nat) (v : Value), Below WW.heap.size WW V → TruthV B k0 tw v V → Calls Tryz.prog 18 #[.agg #[.int .i64 klo, .int .i64 khi, .slice A n ca], v, .slice XB xm xd] V fun e w' => (∃ v, e = .returned v ∧ SeensV V.heap.size l v w') ∧ Below V.heap.size V w') := fun V B v hb hv => by
      obtain ⟨D, dc, rfl, hD⟩ := hv
      have := told7_any (klo := klo) (khi := khi) (ca := ca) (cc := xd) (dc := dc) V (HG.out V hb) (HYS.out V hb) (hD.mono PairR.good (T := fun _ => True) (fun _ _ => trivial)) HOK.out (HTR.out.len) HBD.out HKB.out
      rw [hl] at this
      exact this.mono fun e w' h => ⟨SeensV.of h.1, h.2⟩
    have HB1 := Lib.hid b1
    clear hk0 htw hl he heb b1
    go_wp2_with fail
    refine wp_frameT ?_
    intro a0 ha0
    have tb3 : a0.tmps[3]? = some (.pointer (some ⟨w.heap.size, 0, none⟩)) := by rw [ha0]; kernel_rfl
    have tb4 : a0.tmps[4]? = some (.pointer (some ⟨w.heap.size + 1, 0, none⟩)) := by rw [ha0]; kernel_rfl
    have hsz : a0.tmps.size = 123 := by rw [ha0]; kernel_rfl
    refine wp_region_list (fun W => Below V1.heap.size V1 W) (fun w w' => Below w.heap.size w w')
      [isV (.agg #[.int .i64 klo, .int .i64 khi, .slice A n ca]), isV (.agg #[.int .i64 klo, .int .i64 khi, .slice A n ca]), isV (.pointer (some ⟨w.heap.size + 1, 0, none⟩)), isV (.pointer (some ⟨w.heap.size + 1, 0, none⟩)), isV (.slice XA xn xc), TruthV V1.heap.size k0 tw, isV (.pointer (some ⟨w.heap.size + 1, 0, none⟩)), isV (.pointer (some ⟨w.heap.size + 1, 1, none⟩)), isV (.slice XB xm xd), SeensV V1.heap.size l]
      (by kernel_rfl) (by kernel_rfl) (by kernel_rfl) (by simp) (by simp) (Below.refl _ _).drew ?stabA ?stepA ?finA
    case stabA => exact (StabL.is (StabL.is (StabL.is (StabL.is (StabL.is (StabL.cons (fun v w V hC hX h => h.bl hX) (StabL.is (StabL.is (StabL.is (StabL.cons (fun v w V hC hX h => h.bl hX) StabL.nil))))))))))
    case stepA =>
      refine StepsL.isA ?_ (StepsL.isA ?_ (StepsL.isA ?_ (StepsL.isA ?_ (StepsL.isA ?_ (StepsL.consA ?_ (StepsL.isA ?_ (StepsL.isA ?_ (StepsL.isA ?_ (StepsL.consA ?_ StepsL.nil)))))))))
      · -- 0
        intro vs a W K ha hC hD hU hK
        have r3 : a.tmps[3]? = some (.pointer (some ⟨w.heap.size, 0, none⟩)) := by rw [ha, fillA_base0 (by kernel_rfl)]; exact tb3
        clear ha hU hD ha0
        rw [if_pos (by rfl)]
        obtain ⟨k1, k2, k3, k4, k5, k6⟩ := kk.out W (bl_call HB1.out hC (Nat.le_refl _))
        go_simp
        exact hK _ hC (Below.refl _ _)
      · -- 1
        intro vs a W K ha hC hD hU hK
        have r3 : a.tmps[3]? = some (.pointer (some ⟨w.heap.size, 0, none⟩)) := by rw [ha, fillA_base0 (by kernel_rfl)]; exact tb3
        clear ha hU hD ha0
        rw [if_pos (by rfl)]
        obtain ⟨k1, k2, k3, k4, k5, k6⟩ := kk.out W (bl_call HB1.out hC (Nat.le_refl _))
        go_simp
        exact hK _ hC (Below.refl _ _)
      · -- 2
        intro vs a W K ha hC hD hU hK
        have r4 : a.tmps[4]? = some (.pointer (some ⟨w.heap.size + 1, 0, none⟩)) := by rw [ha, fillA_base0 (by kernel_rfl)]; exact tb4
        clear ha hU hD ha0
        rw [if_pos (by rfl)]
        go_simp
        exact hK _ hC (Below.refl _ _)
      · -- 3
        intro vs a W K ha hC hD hU hK
        have r22 : a.tmps[22]? = some (vs 2) := by rw [ha]; exact fillA_get0 (j := 2) (by kernel_rfl) (by rw [hsz]; decide)
        have q2 : vs 2 = .pointer (some ⟨w.heap.size + 1, 0, none⟩) := hD 2 (by simp [waits, Region.binds])
        rw [q2] at r22
        clear ha hU hD ha0
        rw [if_pos (by rfl)]
        go_simp
        exact hK _ hC (Below.refl _ _)
      · -- 4
        intro vs a W K ha hC hD hU hK
        have r23 : a.tmps[23]? = some (vs 3) := by rw [ha]; exact fillA_get0 (j := 3) (by kernel_rfl) (by rw [hsz]; decide)
        have q3 : vs 3 = .pointer (some ⟨w.heap.size + 1, 0, none⟩) := hD 3 (by simp [waits, Region.binds])
        rw [q3] at r23
        clear ha hU hD ha0
        rw [if_pos (by rfl)]
        obtain ⟨k1, k2, k3, k4, k5, k6⟩ := kk.out W (bl_call HB1.out hC (Nat.le_refl _))
        go_simp
        exact hK _ hC (Below.refl _ _)
      · -- 5
        intro vs a W K ha hC hD hU hK
        have r21 : a.tmps[21]? = some (vs 1) := by rw [ha]; exact fillA_get0 (j := 1) (by kernel_rfl) (by rw [hsz]; decide)
        have q1 : vs 1 = .agg #[.int .i64 klo, .int .i64 khi, .slice A n ca] := hD 1 (by simp [waits, Region.binds])
        rw [q1] at r21
        have r24 : a.tmps[24]? = some (vs 4) := by rw [ha]; exact fillA_get0 (j := 4) (by kernel_rfl) (by rw [hsz]; decide)
        have q4 : vs 4 = .slice XA xn xc := hD 4 (by simp [waits, Region.binds])
        rw [q4] at r24
        clear ha hU hD ha0
        rw [if_pos (by rfl)]
        go_simp
        refine (HA.out W (bl_call HB1.out hC (Nat.le_refl _))).mono ?_
        rintro e w' ⟨⟨v, rfl, hv⟩, hb⟩
        exact hK _ _ (bl_call hC hb (Nat.le_refl _)) hb (hv.low hC.size)
      · -- 6
        intro vs a W K ha hC hD hU hK
        have r4 : a.tmps[4]? = some (.pointer (some ⟨w.heap.size + 1, 0, none⟩)) := by rw [ha, fillA_base0 (by kernel_rfl)]; exact tb4
        clear ha hU hD ha0
        rw [if_pos (by rfl)]
        go_simp
        exact hK _ hC (Below.refl _ _)
      · -- 7
        intro vs a W K ha hC hD hU hK
        have r26 : a.tmps[26]? = some (vs 6) := by rw [ha]; exact fillA_get0 (j := 6) (by kernel_rfl) (by rw [hsz]; decide)
        have q6 : vs 6 = .pointer (some ⟨w.heap.size + 1, 0, none⟩) := hD 6 (by simp [waits, Region.binds])
        rw [q6] at r26
        clear ha hU hD ha0
        rw [if_pos (by rfl)]
        go_simp
        exact hK _ hC (Below.refl _ _)
      · -- 8
        intro vs a W K ha hC hD hU hK
        have r27 : a.tmps[27]? = some (vs 7) := by rw [ha]; exact fillA_get0 (j := 7) (by kernel_rfl) (by rw [hsz]; decide)
        have q7 : vs 7 = .pointer (some ⟨w.heap.size + 1, 1, none⟩) := hD 7 (by simp [waits, Region.binds])
        rw [q7] at r27
        clear ha hU hD ha0
        rw [if_pos (by rfl)]
        obtain ⟨k1, k2, k3, k4, k5, k6⟩ := kk.out W (bl_call HB1.out hC (Nat.le_refl _))
        go_simp
        exact hK _ hC (Below.refl _ _)
      · -- 9
        intro vs a W K ha hC hD hU hK
        have r20 : a.tmps[20]? = some (vs 0) := by rw [ha]; exact fillA_get0 (j := 0) (by kernel_rfl) (by rw [hsz]; decide)
        have q0 : vs 0 = .agg #[.int .i64 klo, .int .i64 khi, .slice A n ca] := hD 0 (by simp [waits, Region.binds])
        rw [q0] at r20
        have r25 : a.tmps[25]? = some (vs 5) := by rw [ha]; exact fillA_get0 (j := 5) (by kernel_rfl) (by rw [hsz]; decide)
        have P5 : TruthV V1.heap.size k0 tw (vs 5) W := hD 5 (by simp [waits, Region.binds])
        obtain ⟨D25, d25, e25, hI25⟩ := P5
        rw [e25] at r25
        have r28 : a.tmps[28]? = some (vs 8) := by rw [ha]; exact fillA_get0 (j := 8) (by kernel_rfl) (by rw [hsz]; decide)
        have q8 : vs 8 = .slice XB xm xd := hD 8 (by simp [waits, Region.binds])
        rw [q8] at r28
        clear ha hU hD ha0
        rw [if_pos (by rfl)]
        go_simp
        refine (HT.out W V1.heap.size _ (bl_call HB1.out hC (Nat.le_refl _)) ⟨_, _, rfl, hI25⟩).mono ?_
        rintro e w' ⟨⟨v, rfl, hv⟩, hb⟩
        exact hK _ _ (bl_call hC hb (Nat.le_refl _)) hb (hv.low hC.size)
    case finA =>
      intro vs W hC hE hU
      rw [ha0]
      clear hU hsz tb3 tb4
      have E9 : SeensV V1.heap.size l (vs 9) W := hE 9 (by simp)
      simp only [fillA, Act.put, List.setIfInBounds_toArray, List.set_cons_zero, List.set_cons_succ, Nat.zero_add, Nat.reduceAdd]
      obtain ⟨C, cc, e9, hS⟩ := E9
      rw [e9]
      obtain ⟨u0, hu0⟩ : ∃ v0, vs 0 = v0 := ⟨_, rfl⟩
      obtain ⟨u1, hu1⟩ : ∃ v0, vs 1 = v0 := ⟨_, rfl⟩
      obtain ⟨u2, hu2⟩ : ∃ v0, vs 2 = v0 := ⟨_, rfl⟩
      obtain ⟨u3, hu3⟩ : ∃ v0, vs 3 = v0 := ⟨_, rfl⟩
      obtain ⟨u4, hu4⟩ : ∃ v0, vs 4 = v0 := ⟨_, rfl⟩
      obtain ⟨u5, hu5⟩ : ∃ v0, vs 5 = v0 := ⟨_, rfl⟩
      obtain ⟨u6, hu6⟩ : ∃ v0, vs 6 = v0 := ⟨_, rfl⟩
      obtain ⟨u7, hu7⟩ : ∃ v0, vs 7 = v0 := ⟨_, rfl⟩
      obtain ⟨u8, hu8⟩ : ∃ v0, vs 8 = v0 := ⟨_, rfl⟩
      rw [hu0, hu1, hu2, hu3, hu4, hu5, hu6, hu7, hu8]
      clear hu0 hu1 hu2 hu3 hu4 hu5 hu6 hu7 hu8
      clear hE e9 HA HT
      obtain ⟨q, hq⟩ : ∃ x, l.length = x := ⟨_, rfl⟩
      rw [hq] at hS
      rw [hq]
      have HS : Hid (∀ V, Below W.heap.size W V → SeenCs (fun _ => True) V C q l) := fun V hb => (hS.keep SeenCR.good (Keeps.below hb)).mono SeenCR.good (fun _ _ => trivial)
      have HB4 : Hid (Below WW.heap.size WW W) := bl_call HB1.out hC (Nat.le_refl _)
      clear hq hS hC HB1
      obtain ⟨V4, hV4⟩ : ∃ V, V = W := ⟨_, rfl⟩
      subst hV4
      obtain ⟨x0, x1, x2, _, _, y2⟩ := kk.out V4 HB4.out
      go_simp
      go_wp2_with fail
      clear x0 x1 x2 y2
      refine (rorder7_any V4 (HG.out V4 HB4.out) (HS.out V4 (Below.refl _ _)) (HPS.out V4 HB4.out) h1 h2).mono ?_
      rintro e V5 ⟨rfl, c5⟩
      have HB5 : Hid (Below WW.heap.size WW V5) := bl_call HB4.out c5 (Nat.le_refl _)
      have H45 : Hid (Below V4.heap.size V4 V5) := c5
      clear c5
      by_cases h0 : orderE s l p = 0
      · have HOE := Lib.hid h0
        obtain ⟨_, _, hp1, hp6⟩ := order_zero h0
        rw [Hm.out] at hp1 hp6
        rw [h0]
        clear h0
        have hn4 : n ≤ 4 := by rw [← Hn.out]; exact HOK.out.nm.2
        obtain ⟨x0, x1, x2, _, _, y2⟩ := kk.out V5 HB5.out
        go_wp2_with fail
        clear x0 x1 x2 y2
        refine (kplan_any (cc := cc) V5 (HG.out V5 HB5.out) (HS.out V5 H45.out) (HPS.out V5 HB5.out) hca h1 h2).mono ?_
        rintro e V6 ⟨⟨D1, e1, D2, e2, rfl, _, hU⟩, c6⟩
        obtain ⟨nP, hnP⟩ : ∃ x, (planR s l p).1.length = x := ⟨_, rfl⟩
        obtain ⟨u, hu⟩ : ∃ x, (planR s l p).2.1 = x := ⟨_, rfl⟩
        obtain ⟨re, hre⟩ : ∃ x, (planR s l p).2.2 = x := ⟨_, rfl⟩
        rw [hu] at hU
        rw [hnP, hu, hre]
        obtain ⟨nU, hnU⟩ : ∃ x, u.length = x := ⟨_, rfl⟩
        rw [hnU] at hU
        rw [hnU]
        have HUE := Lib.hid hu
        have HRE := Lib.hid hre
        have HNU := Lib.hid hnU
        have HU : Hid (∀ V, Below V6.heap.size V6 V → Ints (fun _ => True) V D2 nU u) := fun V hb => (hU.keep IntR.good (Keeps.below hb)).mono IntR.good (fun _ _ => trivial)
        have hnul := hU.le
        have HB6 : Hid (Below WW.heap.size WW V6) := bl_call HB5.out c6 (Nat.le_refl _)
        have H46 : Hid (Below V4.heap.size V4 V6) := bl_call H45.out c6 (Nat.le_refl _)
        clear hnP hu hre hnU hU c6
        obtain ⟨x0, x1, x2, _, _, y2⟩ := kk.out V6 HB6.out
        go_wp2_with fail
        clear x0 x1 x2 y2
        refine (chosen7_any (n := n) V6 (by omega) hbits).mono ?_
        rintro e V7 ⟨⟨E, nO, ec, rfl, hO⟩, c7⟩
        obtain ⟨other, hoe⟩ : ∃ x, choC bits n = x := ⟨_, rfl⟩
        rw [hoe] at hO
        have HNO := Lib.hid hO.len
        have hnol := hO.le
        have HSE : Hid (other ∈ setsL s.moulds.length) := by rw [Hid, sets_mem, Hn.out, ← hoe]; exact choC_sub bits n
        have HO : Hid (∀ V, Below V7.heap.size V7 V → Ints (fun _ => True) V E nO other) := fun V hb => (hO.keep IntR.good (Keeps.below hb)).mono IntR.good (fun _ _ => trivial)
        have HB7 : Hid (Below WW.heap.size WW V7) := bl_call HB6.out c7 (Nat.le_refl _)
        have H47 : Hid (Below V4.heap.size V4 V7) := bl_call H46.out c7 (Nat.le_refl _)
        have H67 : Hid (Below V6.heap.size V6 V7) := c7
        clear hoe hO c7
        obtain ⟨x0, x1, x2, _, _, y2⟩ := kk.out V7 HB7.out
        go_wp2_with fail
        clear x0 x1 x2 y2
        refine (rall7_0 V7 (HG.out V7 HB7.out) (HS.out V7 H47.out) (HPS.out V7 HB7.out) h1 h2 HOE.out).mono ?_
        rintro e V8 ⟨⟨F1, f1, rfl, hF⟩, c8⟩
        have HB8 : Hid (Below WW.heap.size WW V8) := bl_call HB7.out c8 (Nat.le_refl _)
        have H78 : Hid (Below V7.heap.size V7 V8) := c8
        clear c8
        go_wp2_with fail
        refine (ronly7_any (but := []) V8 hF (HO.out V8 H78.out) (SliceOf.nil _ _ (fun _ => True) _ _) (by omega) (all40 HOE.out)).mono ?_
        rintro e V9 ⟨⟨G1, g1, rfl, hG, _⟩, c9⟩
        have HB9 : Hid (Below WW.heap.size WW V9) := bl_call HB8.out c9 (Nat.le_refl _)
        have H79 : Hid (Below V7.heap.size V7 V9) := bl_call H78.out c9 (Nat.le_refl _)
        clear c9 hF
        go_wp2_with fail
        refine (rfewest7_any V9 hG (by omega) (only40 (all40 HOE.out) _ _)).mono ?_
        rintro e V10 ⟨⟨J1, j1, rfl, _⟩, c10⟩
        have HB10 : Hid (Below WW.heap.size WW V10) := bl_call HB9.out c10 (Nat.le_refl _)
        have H710 : Hid (Below V7.heap.size V7 V10) := bl_call H79.out c10 (Nat.le_refl _)
        have H610 : Hid (Below V6.heap.size V6 V10) := bl_call H67.out H710.out (Nat.le_refl _)
        clear c10 hG
        obtain ⟨lk, hlk⟩ : ∃ x, (fewestL (onlyL (allL s l p) other [])).isSome = x := ⟨_, rfl⟩
        obtain ⟨jn, hjn⟩ : ∃ x, ((fewestL (onlyL (allL s l p) other [])).getD []).length = x := ⟨_, rfl⟩
        rw [hlk, hjn]
        have HLK := Lib.hid hlk
        clear hlk hjn
        by_cases hr : re = 0
        · have hfb := fewest_bef HOE.out (by rw [Hn.out]; omega) HSE.out (by rw [HRE.out]; exact hr)
          rw [HUE.out, HLK.out, HNU.out] at hfb
          obtain ⟨hu1, hbef⟩ := hfb
          have HBEF := Lib.hid hbef
          clear hbef
          subst hr
          have hu1i : (0 : Int) < nU := by omega
          have hu1n : 0 < nU := by omega
          rcases Nat.lt_trichotomy nO nU with hc | hc | hc
          · have hci : (nO : Int) < nU := by omega
            have hce : ((nO : Int) == nU) = false := by simp; omega
            have hcne : ¬ nO = nU := by omega
            have hlt : lk = true := HBEF.out (.inl (by rw [HNO.out, HNU.out]; exact hc))
            subst hlt
            go_wp2_with fail
            refine (awake7_any V10).mono ?_
            rintro e V99 ⟨rfl, c99⟩
            have b99 := bl_call hBW (bl_call HB10.out c99 (Nat.le_refl _)) (Nat.le_refl _)
            clear c99
            go_wp2
            go_ret
            exact ⟨by rfl, b99⟩
          · subst hc
            have hci : ¬ (nO : Int) < nO := by omega
            have HLX : Hid (lexC other u < 0 → lk = true) := fun h => HBEF.out (.inr ⟨by rw [HNO.out, HNU.out], h⟩)
            go_wp2_with fail
            go_loopw [14, 15] (fun bv i wr => ∃ (k : Nat) (β : Bool), k ≤ nO ∧ i = .int .i64 k ∧ bv = .bool β ∧ Hid ((β = true → lexC other u < 0) ∧ (β = false → other.take k = u.take k)) ∧ Hid (Below V10.heap.size V10 wr)) (fun _ i _ => nO - (intOf i).toNat)
            case atStart => exact ⟨0, false, Nat.zero_le _, rfl, rfl, ⟨(fun h => by cases h), fun _ => by simp⟩, Below.refl _ _⟩
            case round =>
              obtain ⟨k, β, hk, rfl, rfl, HQ, HBk⟩ := hrel
              have HBWk : Hid (Below WW.heap.size WW wr) := bl_call HB10.out HBk.out (Nat.le_refl _)
              by_cases hlt : k < nO
              · have hki : (k : Int) < nO := by omega
                cases β with
                | true =>
                  have hlt2 : lk = true := HLX.out (HQ.out.1 rfl)
                  subst hlt2
                  go_wp2_with fail
                  refine (awake7_any wr).mono ?_
                  rintro e V99 ⟨rfl, c99⟩
                  have b99 := bl_call hBW (bl_call HBWk.out c99 (Nat.le_refl _)) (Nat.le_refl _)
                  clear c99
                  go_wp2
                  go_ret
                  exact ⟨by rfl, b99⟩
                | false =>
                  have HTK := Lib.hid (HQ.out.2 rfl)
                  obtain ⟨bE, oE, x, rfl, hxc, Hx⟩ := Ints.get (HO.out wr (bl_call H710.out HBk.out (Nat.le_refl _))) hlt
                  obtain ⟨bU, oU, y, rfl, hyc, Hy⟩ := Ints.get (HU.out wr (bl_call H610.out HBk.out (Nat.le_refl _))) hlt
                  have kq : Hid (∀ V, Below wr.heap.size wr V → V.cell? ⟨bE, oE + k, none⟩ = some (.int .i64 x) ∧ V.cell? ⟨bU, oU + k, none⟩ = some (.int .i64 y)) := fun V hb => ⟨getc hb hxc, getc hb hyc⟩
                  clear hxc hyc HQ
                  obtain ⟨Wk, hWk⟩ : ∃ V : World, V = wr := ⟨_, rfl⟩
                  subst hWk
                  by_cases hgt : y < x
                  · have hgtd : decide (y < x) = true := decide_eq_true hgt
                    go_wp2_with fail
                    refine wp_frameT ?_
                    intro a0 ha0
                    have tb9 : a0.tmps[9]? = some (.slice (some ⟨bU, oU, none⟩) nO e2) := by rw [ha0]; kernel_rfl
                    have tb11 : a0.tmps[11]? = some (.slice (some ⟨bE, oE, none⟩) nO ec) := by rw [ha0]; kernel_rfl
                    have tb15 : a0.tmps[15]? = some (.int .i64 (k : Int)) := by rw [ha0]; kernel_rfl
                    have hsz : a0.tmps.size = 123 := by rw [ha0]; kernel_rfl
                    refine wp_region_list (fun W => Below Wk.heap.size Wk W) (fun w w' => Below w.heap.size w w')
                      [isV (.slice (some ⟨bE, oE, none⟩) nO ec), isV (.int .i64 (k : Int)), isV (.pointer (some ⟨bE, oE + k, none⟩)), isV (.int .i64 x), isV (.slice (some ⟨bU, oU, none⟩) nO e2), isV (.int .i64 (k : Int)), isV (.pointer (some ⟨bU, oU + k, none⟩)), isV (.int .i64 y), isV (.bool true)]
                      (by kernel_rfl) (by kernel_rfl) (by kernel_rfl) (by simp) (by simp) (Below.refl _ _).drew ?stabP ?stepP ?finP
                    case stabP => exact (StabL.is (StabL.is (StabL.is (StabL.is (StabL.is (StabL.is (StabL.is (StabL.is (StabL.is StabL.nil)))))))))
                    case stepP =>
                      refine StepsL.isA ?_ (StepsL.isA ?_ (StepsL.isA ?_ (StepsL.isA ?_ (StepsL.isA ?_ (StepsL.isA ?_ (StepsL.isA ?_ (StepsL.isA ?_ (StepsL.isA ?_ StepsL.nil))))))))
                      · -- 0
                        intro vs a W K ha hC hD hU hK
                        have r11 : a.tmps[11]? = some (.slice (some ⟨bE, oE, none⟩) nO ec) := by rw [ha, fillA_base0 (by kernel_rfl)]; exact tb11
                        clear ha hU hD ha0
                        rw [if_pos (by rfl)]
                        go_simp
                        exact hK _ hC (Below.refl _ _)
                      · -- 1
                        intro vs a W K ha hC hD hU hK
                        have r15 : a.tmps[15]? = some (.int .i64 (k : Int)) := by rw [ha, fillA_base0 (by kernel_rfl)]; exact tb15
                        clear ha hU hD ha0
                        rw [if_pos (by rfl)]
                        go_simp
                        exact hK _ hC (Below.refl _ _)
                      · -- 2
                        intro vs a W K ha hC hD hU hK
                        have r92 : a.tmps[92]? = some (vs 0) := by rw [ha]; exact fillA_get0 (j := 0) (by kernel_rfl) (by rw [hsz]; decide)
                        have q0 : vs 0 = .slice (some ⟨bE, oE, none⟩) nO ec := hD 0 (by simp [waits, Region.binds])
                        rw [q0] at r92
                        have r93 : a.tmps[93]? = some (vs 1) := by rw [ha]; exact fillA_get0 (j := 1) (by kernel_rfl) (by rw [hsz]; decide)
                        have q1 : vs 1 = .int .i64 (k : Int) := hD 1 (by simp [waits, Region.binds])
                        rw [q1] at r93
                        clear ha hU hD ha0
                        rw [if_pos (by rfl)]
                        go_simp
                        exact hK _ hC (Below.refl _ _)
                      · -- 3
                        intro vs a W K ha hC hD hU hK
                        have r94 : a.tmps[94]? = some (vs 2) := by rw [ha]; exact fillA_get0 (j := 2) (by kernel_rfl) (by rw [hsz]; decide)
                        have q2 : vs 2 = .pointer (some ⟨bE, oE + k, none⟩) := hD 2 (by simp [waits, Region.binds])
                        rw [q2] at r94
                        clear ha hU hD ha0
                        rw [if_pos (by rfl)]
                        obtain ⟨kx, ky⟩ := kq.out W hC
                        go_simp
                        exact hK _ hC (Below.refl _ _)
                      · -- 4
                        intro vs a W K ha hC hD hU hK
                        have r9 : a.tmps[9]? = some (.slice (some ⟨bU, oU, none⟩) nO e2) := by rw [ha, fillA_base0 (by kernel_rfl)]; exact tb9
                        clear ha hU hD ha0
                        rw [if_pos (by rfl)]
                        go_simp
                        exact hK _ hC (Below.refl _ _)
                      · -- 5
                        intro vs a W K ha hC hD hU hK
                        have r15 : a.tmps[15]? = some (.int .i64 (k : Int)) := by rw [ha, fillA_base0 (by kernel_rfl)]; exact tb15
                        clear ha hU hD ha0
                        rw [if_pos (by rfl)]
                        go_simp
                        exact hK _ hC (Below.refl _ _)
                      · -- 6
                        intro vs a W K ha hC hD hU hK
                        have r96 : a.tmps[96]? = some (vs 4) := by rw [ha]; exact fillA_get0 (j := 4) (by kernel_rfl) (by rw [hsz]; decide)
                        have q4 : vs 4 = .slice (some ⟨bU, oU, none⟩) nO e2 := hD 4 (by simp [waits, Region.binds])
                        rw [q4] at r96
                        have r97 : a.tmps[97]? = some (vs 5) := by rw [ha]; exact fillA_get0 (j := 5) (by kernel_rfl) (by rw [hsz]; decide)
                        have q5 : vs 5 = .int .i64 (k : Int) := hD 5 (by simp [waits, Region.binds])
                        rw [q5] at r97
                        clear ha hU hD ha0
                        rw [if_pos (by rfl)]
                        go_simp
                        exact hK _ hC (Below.refl _ _)
                      · -- 7
                        intro vs a W K ha hC hD hU hK
                        have r98 : a.tmps[98]? = some (vs 6) := by rw [ha]; exact fillA_get0 (j := 6) (by kernel_rfl) (by rw [hsz]; decide)
                        have q6 : vs 6 = .pointer (some ⟨bU, oU + k, none⟩) := hD 6 (by simp [waits, Region.binds])
                        rw [q6] at r98
                        clear ha hU hD ha0
                        rw [if_pos (by rfl)]
                        obtain ⟨kx, ky⟩ := kq.out W hC
                        go_simp
                        exact hK _ hC (Below.refl _ _)
                      · -- 8
                        intro vs a W K ha hC hD hU hK
                        have r95 : a.tmps[95]? = some (vs 3) := by rw [ha]; exact fillA_get0 (j := 3) (by kernel_rfl) (by rw [hsz]; decide)
                        have q3 : vs 3 = .int .i64 x := hD 3 (by simp [waits, Region.binds])
                        rw [q3] at r95
                        have r99 : a.tmps[99]? = some (vs 7) := by rw [ha]; exact fillA_get0 (j := 7) (by kernel_rfl) (by rw [hsz]; decide)
                        have q7 : vs 7 = .int .i64 y := hD 7 (by simp [waits, Region.binds])
                        rw [q7] at r99
                        clear ha hU hD ha0
                        rw [if_pos (by rfl)]
                        go_simp
                        exact hK _ hC (Below.refl _ _)
                    case finP =>
                      refine Fin1.none (Nat.le_refl _) ?_
                      intro vs W a1 hC hE ha
                      have eL : vs 8 = .bool true := hE 8 (by simp)
                      rw [ha, ha0]
                      clear ha ha0 hsz tb9 tb11 tb15
                      simp only [fillA, Act.put, List.setIfInBounds_toArray, List.set_cons_zero, List.set_cons_succ, Nat.zero_add, Nat.reduceAdd, eL]
                      obtain ⟨u0, hu0⟩ : ∃ v0, vs 0 = v0 := ⟨_, rfl⟩
                      obtain ⟨u1, hu1⟩ : ∃ v0, vs 1 = v0 := ⟨_, rfl⟩
                      obtain ⟨u2, hu2⟩ : ∃ v0, vs 2 = v0 := ⟨_, rfl⟩
                      obtain ⟨u3, hu3⟩ : ∃ v0, vs 3 = v0 := ⟨_, rfl⟩
                      obtain ⟨u4, hu4⟩ : ∃ v0, vs 4 = v0 := ⟨_, rfl⟩
                      obtain ⟨u5, hu5⟩ : ∃ v0, vs 5 = v0 := ⟨_, rfl⟩
                      obtain ⟨u6, hu6⟩ : ∃ v0, vs 6 = v0 := ⟨_, rfl⟩
                      obtain ⟨u7, hu7⟩ : ∃ v0, vs 7 = v0 := ⟨_, rfl⟩
                      rw [hu0, hu1, hu2, hu3, hu4, hu5, hu6, hu7]
                      clear hu0 hu1 hu2 hu3 hu4 hu5 hu6 hu7
                      have H1W : Hid (Below Wk.heap.size Wk W) := hC
                      clear hE eL hC
                      have HBWe : Hid (Below WW.heap.size WW W) := bl_call HBWk.out H1W.out (Nat.le_refl _)
                      go_wp2_with fail
                      refine (awake7_any W).mono ?_
                      rintro e V99 ⟨rfl, c99⟩
                      have b99 := bl_call hBW (bl_call HBWe.out c99 (Nat.le_refl _)) (Nat.le_refl _)
                      clear c99
                      go_wp2
                      go_ret
                      exact ⟨by rfl, b99⟩
                  · have hgtd : decide (y < x) = false := decide_eq_false hgt
                    go_wp2_with fail
                    refine wp_frameT ?_
                    intro a0 ha0
                    have tb9 : a0.tmps[9]? = some (.slice (some ⟨bU, oU, none⟩) nO e2) := by rw [ha0]; kernel_rfl
                    have tb11 : a0.tmps[11]? = some (.slice (some ⟨bE, oE, none⟩) nO ec) := by rw [ha0]; kernel_rfl
                    have tb15 : a0.tmps[15]? = some (.int .i64 (k : Int)) := by rw [ha0]; kernel_rfl
                    have hsz : a0.tmps.size = 123 := by rw [ha0]; kernel_rfl
                    refine wp_region_list (fun W => Below Wk.heap.size Wk W) (fun w w' => Below w.heap.size w w')
                      [isV (.slice (some ⟨bE, oE, none⟩) nO ec), isV (.int .i64 (k : Int)), isV (.pointer (some ⟨bE, oE + k, none⟩)), isV (.int .i64 x), isV (.slice (some ⟨bU, oU, none⟩) nO e2), isV (.int .i64 (k : Int)), isV (.pointer (some ⟨bU, oU + k, none⟩)), isV (.int .i64 y), isV (.bool false)]
                      (by kernel_rfl) (by kernel_rfl) (by kernel_rfl) (by simp) (by simp) (Below.refl _ _).drew ?stabQ ?stepQ ?finQ
                    case stabQ => exact (StabL.is (StabL.is (StabL.is (StabL.is (StabL.is (StabL.is (StabL.is (StabL.is (StabL.is StabL.nil)))))))))
                    case stepQ =>
                      refine StepsL.isA ?_ (StepsL.isA ?_ (StepsL.isA ?_ (StepsL.isA ?_ (StepsL.isA ?_ (StepsL.isA ?_ (StepsL.isA ?_ (StepsL.isA ?_ (StepsL.isA ?_ StepsL.nil))))))))
                      · -- 0
                        intro vs a W K ha hC hD hU hK
                        have r11 : a.tmps[11]? = some (.slice (some ⟨bE, oE, none⟩) nO ec) := by rw [ha, fillA_base0 (by kernel_rfl)]; exact tb11
                        clear ha hU hD ha0
                        rw [if_pos (by rfl)]
                        go_simp
                        exact hK _ hC (Below.refl _ _)
                      · -- 1
                        intro vs a W K ha hC hD hU hK
                        have r15 : a.tmps[15]? = some (.int .i64 (k : Int)) := by rw [ha, fillA_base0 (by kernel_rfl)]; exact tb15
                        clear ha hU hD ha0
                        rw [if_pos (by rfl)]
                        go_simp
                        exact hK _ hC (Below.refl _ _)
                      · -- 2
                        intro vs a W K ha hC hD hU hK
                        have r92 : a.tmps[92]? = some (vs 0) := by rw [ha]; exact fillA_get0 (j := 0) (by kernel_rfl) (by rw [hsz]; decide)
                        have q0 : vs 0 = .slice (some ⟨bE, oE, none⟩) nO ec := hD 0 (by simp [waits, Region.binds])
                        rw [q0] at r92
                        have r93 : a.tmps[93]? = some (vs 1) := by rw [ha]; exact fillA_get0 (j := 1) (by kernel_rfl) (by rw [hsz]; decide)
                        have q1 : vs 1 = .int .i64 (k : Int) := hD 1 (by simp [waits, Region.binds])
                        rw [q1] at r93
                        clear ha hU hD ha0
                        rw [if_pos (by rfl)]
                        go_simp
                        exact hK _ hC (Below.refl _ _)
                      · -- 3
                        intro vs a W K ha hC hD hU hK
                        have r94 : a.tmps[94]? = some (vs 2) := by rw [ha]; exact fillA_get0 (j := 2) (by kernel_rfl) (by rw [hsz]; decide)
                        have q2 : vs 2 = .pointer (some ⟨bE, oE + k, none⟩) := hD 2 (by simp [waits, Region.binds])
                        rw [q2] at r94
                        clear ha hU hD ha0
                        rw [if_pos (by rfl)]
                        obtain ⟨kx, ky⟩ := kq.out W hC
                        go_simp
                        exact hK _ hC (Below.refl _ _)
                      · -- 4
                        intro vs a W K ha hC hD hU hK
                        have r9 : a.tmps[9]? = some (.slice (some ⟨bU, oU, none⟩) nO e2) := by rw [ha, fillA_base0 (by kernel_rfl)]; exact tb9
                        clear ha hU hD ha0
                        rw [if_pos (by rfl)]
                        go_simp
                        exact hK _ hC (Below.refl _ _)
                      · -- 5
                        intro vs a W K ha hC hD hU hK
                        have r15 : a.tmps[15]? = some (.int .i64 (k : Int)) := by rw [ha, fillA_base0 (by kernel_rfl)]; exact tb15
                        clear ha hU hD ha0
                        rw [if_pos (by rfl)]
                        go_simp
                        exact hK _ hC (Below.refl _ _)
                      · -- 6
                        intro vs a W K ha hC hD hU hK
                        have r96 : a.tmps[96]? = some (vs 4) := by rw [ha]; exact fillA_get0 (j := 4) (by kernel_rfl) (by rw [hsz]; decide)
                        have q4 : vs 4 = .slice (some ⟨bU, oU, none⟩) nO e2 := hD 4 (by simp [waits, Region.binds])
                        rw [q4] at r96
                        have r97 : a.tmps[97]? = some (vs 5) := by rw [ha]; exact fillA_get0 (j := 5) (by kernel_rfl) (by rw [hsz]; decide)
                        have q5 : vs 5 = .int .i64 (k : Int) := hD 5 (by simp [waits, Region.binds])
                        rw [q5] at r97
                        clear ha hU hD ha0
                        rw [if_pos (by rfl)]
                        go_simp
                        exact hK _ hC (Below.refl _ _)
                      · -- 7
                        intro vs a W K ha hC hD hU hK
                        have r98 : a.tmps[98]? = some (vs 6) := by rw [ha]; exact fillA_get0 (j := 6) (by kernel_rfl) (by rw [hsz]; decide)
                        have q6 : vs 6 = .pointer (some ⟨bU, oU + k, none⟩) := hD 6 (by simp [waits, Region.binds])
                        rw [q6] at r98
                        clear ha hU hD ha0
                        rw [if_pos (by rfl)]
                        obtain ⟨kx, ky⟩ := kq.out W hC
                        go_simp
                        exact hK _ hC (Below.refl _ _)
                      · -- 8
                        intro vs a W K ha hC hD hU hK
                        have r95 : a.tmps[95]? = some (vs 3) := by rw [ha]; exact fillA_get0 (j := 3) (by kernel_rfl) (by rw [hsz]; decide)
                        have q3 : vs 3 = .int .i64 x := hD 3 (by simp [waits, Region.binds])
                        rw [q3] at r95
                        have r99 : a.tmps[99]? = some (vs 7) := by rw [ha]; exact fillA_get0 (j := 7) (by kernel_rfl) (by rw [hsz]; decide)
                        have q7 : vs 7 = .int .i64 y := hD 7 (by simp [waits, Region.binds])
                        rw [q7] at r99
                        clear ha hU hD ha0
                        rw [if_pos (by rfl)]
                        go_simp
                        exact hK _ hC (Below.refl _ _)
                    case finQ =>
                      refine Fin1.none (Nat.le_refl _) ?_
                      intro vs W a1 hC hE ha
                      have eL : vs 8 = .bool false := hE 8 (by simp)
                      rw [ha, ha0]
                      clear ha ha0 hsz tb9 tb11 tb15
                      simp only [fillA, Act.put, List.setIfInBounds_toArray, List.set_cons_zero, List.set_cons_succ, Nat.zero_add, Nat.reduceAdd, eL]
                      obtain ⟨u0, hu0⟩ : ∃ v0, vs 0 = v0 := ⟨_, rfl⟩
                      obtain ⟨u1, hu1⟩ : ∃ v0, vs 1 = v0 := ⟨_, rfl⟩
                      obtain ⟨u2, hu2⟩ : ∃ v0, vs 2 = v0 := ⟨_, rfl⟩
                      obtain ⟨u3, hu3⟩ : ∃ v0, vs 3 = v0 := ⟨_, rfl⟩
                      obtain ⟨u4, hu4⟩ : ∃ v0, vs 4 = v0 := ⟨_, rfl⟩
                      obtain ⟨u5, hu5⟩ : ∃ v0, vs 5 = v0 := ⟨_, rfl⟩
                      obtain ⟨u6, hu6⟩ : ∃ v0, vs 6 = v0 := ⟨_, rfl⟩
                      obtain ⟨u7, hu7⟩ : ∃ v0, vs 7 = v0 := ⟨_, rfl⟩
                      rw [hu0, hu1, hu2, hu3, hu4, hu5, hu6, hu7]
                      clear hu0 hu1 hu2 hu3 hu4 hu5 hu6 hu7
                      have H1W : Hid (Below Wk.heap.size Wk W) := hC
                      clear hE eL hC
                      obtain ⟨Wl, hWl⟩ : ∃ V : World, V = W := ⟨_, rfl⟩
                      subst hWl
                      by_cases hxy : x < y
                      · have hxyd : decide (x < y) = true := decide_eq_true hxy
                        have HNX : Hid (lexC other u < 0) := lexC_of_take HTK.out Hx.out Hy.out hxy
                        go_wp2_with fail
                        refine wp_frameT ?_
                        intro a0 ha0
                        have tb9 : a0.tmps[9]? = some (.slice (some ⟨bU, oU, none⟩) nO e2) := by rw [ha0]; kernel_rfl
                        have tb11 : a0.tmps[11]? = some (.slice (some ⟨bE, oE, none⟩) nO ec) := by rw [ha0]; kernel_rfl
                        have tb15 : a0.tmps[15]? = some (.int .i64 (k : Int)) := by rw [ha0]; kernel_rfl
                        have hsz : a0.tmps.size = 123 := by rw [ha0]; kernel_rfl
                        refine wp_region_list (fun W => Below Wl.heap.size Wl W) (fun w w' => Below w.heap.size w w')
                          [isV (.slice (some ⟨bE, oE, none⟩) nO ec), isV (.int .i64 (k : Int)), isV (.pointer (some ⟨bE, oE + k, none⟩)), isV (.int .i64 x), isV (.slice (some ⟨bU, oU, none⟩) nO e2), isV (.int .i64 (k : Int)), isV (.pointer (some ⟨bU, oU + k, none⟩)), isV (.int .i64 y), isV (.bool true)]
                          (by kernel_rfl) (by kernel_rfl) (by kernel_rfl) (by simp) (by simp) (Below.refl _ _).drew ?stabR ?stepR ?finR
                        case stabR => exact (StabL.is (StabL.is (StabL.is (StabL.is (StabL.is (StabL.is (StabL.is (StabL.is (StabL.is StabL.nil)))))))))
                        case stepR =>
                          refine StepsL.isA ?_ (StepsL.isA ?_ (StepsL.isA ?_ (StepsL.isA ?_ (StepsL.isA ?_ (StepsL.isA ?_ (StepsL.isA ?_ (StepsL.isA ?_ (StepsL.isA ?_ StepsL.nil))))))))
                          · -- 0
                            intro vs a W K ha hC hD hU hK
                            have r11 : a.tmps[11]? = some (.slice (some ⟨bE, oE, none⟩) nO ec) := by rw [ha, fillA_base0 (by kernel_rfl)]; exact tb11
                            clear ha hU hD ha0
                            rw [if_pos (by rfl)]
                            go_simp
                            exact hK _ hC (Below.refl _ _)
                          · -- 1
                            intro vs a W K ha hC hD hU hK
                            have r15 : a.tmps[15]? = some (.int .i64 (k : Int)) := by rw [ha, fillA_base0 (by kernel_rfl)]; exact tb15
                            clear ha hU hD ha0
                            rw [if_pos (by rfl)]
                            go_simp
                            exact hK _ hC (Below.refl _ _)
                          · -- 2
                            intro vs a W K ha hC hD hU hK
                            have r101 : a.tmps[101]? = some (vs 0) := by rw [ha]; exact fillA_get0 (j := 0) (by kernel_rfl) (by rw [hsz]; decide)
                            have q0 : vs 0 = .slice (some ⟨bE, oE, none⟩) nO ec := hD 0 (by simp [waits, Region.binds])
                            rw [q0] at r101
                            have r102 : a.tmps[102]? = some (vs 1) := by rw [ha]; exact fillA_get0 (j := 1) (by kernel_rfl) (by rw [hsz]; decide)
                            have q1 : vs 1 = .int .i64 (k : Int) := hD 1 (by simp [waits, Region.binds])
                            rw [q1] at r102
                            clear ha hU hD ha0
                            rw [if_pos (by rfl)]
                            go_simp
                            exact hK _ hC (Below.refl _ _)
                          · -- 3
                            intro vs a W K ha hC hD hU hK
                            have r103 : a.tmps[103]? = some (vs 2) := by rw [ha]; exact fillA_get0 (j := 2) (by kernel_rfl) (by rw [hsz]; decide)
                            have q2 : vs 2 = .pointer (some ⟨bE, oE + k, none⟩) := hD 2 (by simp [waits, Region.binds])
                            rw [q2] at r103
                            clear ha hU hD ha0
                            rw [if_pos (by rfl)]
                            obtain ⟨kx, ky⟩ := kq.out W (bl_call H1W.out hC (Nat.le_refl _))
                            go_simp
                            exact hK _ hC (Below.refl _ _)
                          · -- 4
                            intro vs a W K ha hC hD hU hK
                            have r9 : a.tmps[9]? = some (.slice (some ⟨bU, oU, none⟩) nO e2) := by rw [ha, fillA_base0 (by kernel_rfl)]; exact tb9
                            clear ha hU hD ha0
                            rw [if_pos (by rfl)]
                            go_simp
                            exact hK _ hC (Below.refl _ _)
                          · -- 5
                            intro vs a W K ha hC hD hU hK
                            have r15 : a.tmps[15]? = some (.int .i64 (k : Int)) := by rw [ha, fillA_base0 (by kernel_rfl)]; exact tb15
                            clear ha hU hD ha0
                            rw [if_pos (by rfl)]
                            go_simp
                            exact hK _ hC (Below.refl _ _)
                          · -- 6
                            intro vs a W K ha hC hD hU hK
                            have r105 : a.tmps[105]? = some (vs 4) := by rw [ha]; exact fillA_get0 (j := 4) (by kernel_rfl) (by rw [hsz]; decide)
                            have q4 : vs 4 = .slice (some ⟨bU, oU, none⟩) nO e2 := hD 4 (by simp [waits, Region.binds])
                            rw [q4] at r105
                            have r106 : a.tmps[106]? = some (vs 5) := by rw [ha]; exact fillA_get0 (j := 5) (by kernel_rfl) (by rw [hsz]; decide)
                            have q5 : vs 5 = .int .i64 (k : Int) := hD 5 (by simp [waits, Region.binds])
                            rw [q5] at r106
                            clear ha hU hD ha0
                            rw [if_pos (by rfl)]
                            go_simp
                            exact hK _ hC (Below.refl _ _)
                          · -- 7
                            intro vs a W K ha hC hD hU hK
                            have r107 : a.tmps[107]? = some (vs 6) := by rw [ha]; exact fillA_get0 (j := 6) (by kernel_rfl) (by rw [hsz]; decide)
                            have q6 : vs 6 = .pointer (some ⟨bU, oU + k, none⟩) := hD 6 (by simp [waits, Region.binds])
                            rw [q6] at r107
                            clear ha hU hD ha0
                            rw [if_pos (by rfl)]
                            obtain ⟨kx, ky⟩ := kq.out W (bl_call H1W.out hC (Nat.le_refl _))
                            go_simp
                            exact hK _ hC (Below.refl _ _)
                          · -- 8
                            intro vs a W K ha hC hD hU hK
                            have r104 : a.tmps[104]? = some (vs 3) := by rw [ha]; exact fillA_get0 (j := 3) (by kernel_rfl) (by rw [hsz]; decide)
                            have q3 : vs 3 = .int .i64 x := hD 3 (by simp [waits, Region.binds])
                            rw [q3] at r104
                            have r108 : a.tmps[108]? = some (vs 7) := by rw [ha]; exact fillA_get0 (j := 7) (by kernel_rfl) (by rw [hsz]; decide)
                            have q7 : vs 7 = .int .i64 y := hD 7 (by simp [waits, Region.binds])
                            rw [q7] at r108
                            clear ha hU hD ha0
                            rw [if_pos (by rfl)]
                            go_simp
                            exact hK _ hC (Below.refl _ _)
                        case finR =>
                          intro vs W hC hE hU
                          rw [ha0]
                          clear hU hsz tb9 tb11 tb15
                          have e8 : vs 8 = .bool true := hE 8 (by simp)
                          simp only [fillA, Act.put, List.setIfInBounds_toArray, List.set_cons_zero, List.set_cons_succ, Nat.zero_add, Nat.reduceAdd, e8]
                          obtain ⟨u0, hu0⟩ : ∃ v0, vs 0 = v0 := ⟨_, rfl⟩
                          obtain ⟨u1, hu1⟩ : ∃ v0, vs 1 = v0 := ⟨_, rfl⟩
                          obtain ⟨u2, hu2⟩ : ∃ v0, vs 2 = v0 := ⟨_, rfl⟩
                          obtain ⟨u3, hu3⟩ : ∃ v0, vs 3 = v0 := ⟨_, rfl⟩
                          obtain ⟨u4, hu4⟩ : ∃ v0, vs 4 = v0 := ⟨_, rfl⟩
                          obtain ⟨u5, hu5⟩ : ∃ v0, vs 5 = v0 := ⟨_, rfl⟩
                          obtain ⟨u6, hu6⟩ : ∃ v0, vs 6 = v0 := ⟨_, rfl⟩
                          obtain ⟨u7, hu7⟩ : ∃ v0, vs 7 = v0 := ⟨_, rfl⟩
                          rw [hu0, hu1, hu2, hu3, hu4, hu5, hu6, hu7]
                          clear hu0 hu1 hu2 hu3 hu4 hu5 hu6 hu7
                          have HEND : Hid (Below V10.heap.size V10 W) := bl_call HBk.out (bl_call H1W.out hC (Nat.le_refl _)) (Nat.le_refl _)
                          clear hE e8 hC
                          go_simp
                          go_wp2_with fail
                          go_roundw
                          case rel => exact ⟨k + 1, true, by omega, by go_num, rfl, ⟨(fun _ => HNX.out), (fun h => by cases h)⟩, HEND.out⟩
                          case measure => simp [intOf]; omega
                      · have hxyd : decide (x < y) = false := decide_eq_false hxy
                        have HNX : Hid (other.take (k + 1) = u.take (k + 1)) := by rw [Hid, take_snoc_get Hx.out, take_snoc_get Hy.out, HTK.out, show x = y by omega]
                        go_wp2_with fail
                        refine wp_frameT ?_
                        intro a0 ha0
                        have tb9 : a0.tmps[9]? = some (.slice (some ⟨bU, oU, none⟩) nO e2) := by rw [ha0]; kernel_rfl
                        have tb11 : a0.tmps[11]? = some (.slice (some ⟨bE, oE, none⟩) nO ec) := by rw [ha0]; kernel_rfl
                        have tb15 : a0.tmps[15]? = some (.int .i64 (k : Int)) := by rw [ha0]; kernel_rfl
                        have hsz : a0.tmps.size = 123 := by rw [ha0]; kernel_rfl
                        refine wp_region_list (fun W => Below Wl.heap.size Wl W) (fun w w' => Below w.heap.size w w')
                          [isV (.slice (some ⟨bE, oE, none⟩) nO ec), isV (.int .i64 (k : Int)), isV (.pointer (some ⟨bE, oE + k, none⟩)), isV (.int .i64 x), isV (.slice (some ⟨bU, oU, none⟩) nO e2), isV (.int .i64 (k : Int)), isV (.pointer (some ⟨bU, oU + k, none⟩)), isV (.int .i64 y), isV (.bool false)]
                          (by kernel_rfl) (by kernel_rfl) (by kernel_rfl) (by simp) (by simp) (Below.refl _ _).drew ?stabS ?stepS ?finS
                        case stabS => exact (StabL.is (StabL.is (StabL.is (StabL.is (StabL.is (StabL.is (StabL.is (StabL.is (StabL.is StabL.nil)))))))))
                        case stepS =>
                          refine StepsL.isA ?_ (StepsL.isA ?_ (StepsL.isA ?_ (StepsL.isA ?_ (StepsL.isA ?_ (StepsL.isA ?_ (StepsL.isA ?_ (StepsL.isA ?_ (StepsL.isA ?_ StepsL.nil))))))))
                          · -- 0
                            intro vs a W K ha hC hD hU hK
                            have r11 : a.tmps[11]? = some (.slice (some ⟨bE, oE, none⟩) nO ec) := by rw [ha, fillA_base0 (by kernel_rfl)]; exact tb11
                            clear ha hU hD ha0
                            rw [if_pos (by rfl)]
                            go_simp
                            exact hK _ hC (Below.refl _ _)
                          · -- 1
                            intro vs a W K ha hC hD hU hK
                            have r15 : a.tmps[15]? = some (.int .i64 (k : Int)) := by rw [ha, fillA_base0 (by kernel_rfl)]; exact tb15
                            clear ha hU hD ha0
                            rw [if_pos (by rfl)]
                            go_simp
                            exact hK _ hC (Below.refl _ _)
                          · -- 2
                            intro vs a W K ha hC hD hU hK
                            have r101 : a.tmps[101]? = some (vs 0) := by rw [ha]; exact fillA_get0 (j := 0) (by kernel_rfl) (by rw [hsz]; decide)
                            have q0 : vs 0 = .slice (some ⟨bE, oE, none⟩) nO ec := hD 0 (by simp [waits, Region.binds])
                            rw [q0] at r101
                            have r102 : a.tmps[102]? = some (vs 1) := by rw [ha]; exact fillA_get0 (j := 1) (by kernel_rfl) (by rw [hsz]; decide)
                            have q1 : vs 1 = .int .i64 (k : Int) := hD 1 (by simp [waits, Region.binds])
                            rw [q1] at r102
                            clear ha hU hD ha0
                            rw [if_pos (by rfl)]
                            go_simp
                            exact hK _ hC (Below.refl _ _)
                          · -- 3
                            intro vs a W K ha hC hD hU hK
                            have r103 : a.tmps[103]? = some (vs 2) := by rw [ha]; exact fillA_get0 (j := 2) (by kernel_rfl) (by rw [hsz]; decide)
                            have q2 : vs 2 = .pointer (some ⟨bE, oE + k, none⟩) := hD 2 (by simp [waits, Region.binds])
                            rw [q2] at r103
                            clear ha hU hD ha0
                            rw [if_pos (by rfl)]
                            obtain ⟨kx, ky⟩ := kq.out W (bl_call H1W.out hC (Nat.le_refl _))
                            go_simp
                            exact hK _ hC (Below.refl _ _)
                          · -- 4
                            intro vs a W K ha hC hD hU hK
                            have r9 : a.tmps[9]? = some (.slice (some ⟨bU, oU, none⟩) nO e2) := by rw [ha, fillA_base0 (by kernel_rfl)]; exact tb9
                            clear ha hU hD ha0
                            rw [if_pos (by rfl)]
                            go_simp
                            exact hK _ hC (Below.refl _ _)
                          · -- 5
                            intro vs a W K ha hC hD hU hK
                            have r15 : a.tmps[15]? = some (.int .i64 (k : Int)) := by rw [ha, fillA_base0 (by kernel_rfl)]; exact tb15
                            clear ha hU hD ha0
                            rw [if_pos (by rfl)]
                            go_simp
                            exact hK _ hC (Below.refl _ _)
                          · -- 6
                            intro vs a W K ha hC hD hU hK
                            have r105 : a.tmps[105]? = some (vs 4) := by rw [ha]; exact fillA_get0 (j := 4) (by kernel_rfl) (by rw [hsz]; decide)
                            have q4 : vs 4 = .slice (some ⟨bU, oU, none⟩) nO e2 := hD 4 (by simp [waits, Region.binds])
                            rw [q4] at r105
                            have r106 : a.tmps[106]? = some (vs 5) := by rw [ha]; exact fillA_get0 (j := 5) (by kernel_rfl) (by rw [hsz]; decide)
                            have q5 : vs 5 = .int .i64 (k : Int) := hD 5 (by simp [waits, Region.binds])
                            rw [q5] at r106
                            clear ha hU hD ha0
                            rw [if_pos (by rfl)]
                            go_simp
                            exact hK _ hC (Below.refl _ _)
                          · -- 7
                            intro vs a W K ha hC hD hU hK
                            have r107 : a.tmps[107]? = some (vs 6) := by rw [ha]; exact fillA_get0 (j := 6) (by kernel_rfl) (by rw [hsz]; decide)
                            have q6 : vs 6 = .pointer (some ⟨bU, oU + k, none⟩) := hD 6 (by simp [waits, Region.binds])
                            rw [q6] at r107
                            clear ha hU hD ha0
                            rw [if_pos (by rfl)]
                            obtain ⟨kx, ky⟩ := kq.out W (bl_call H1W.out hC (Nat.le_refl _))
                            go_simp
                            exact hK _ hC (Below.refl _ _)
                          · -- 8
                            intro vs a W K ha hC hD hU hK
                            have r104 : a.tmps[104]? = some (vs 3) := by rw [ha]; exact fillA_get0 (j := 3) (by kernel_rfl) (by rw [hsz]; decide)
                            have q3 : vs 3 = .int .i64 x := hD 3 (by simp [waits, Region.binds])
                            rw [q3] at r104
                            have r108 : a.tmps[108]? = some (vs 7) := by rw [ha]; exact fillA_get0 (j := 7) (by kernel_rfl) (by rw [hsz]; decide)
                            have q7 : vs 7 = .int .i64 y := hD 7 (by simp [waits, Region.binds])
                            rw [q7] at r108
                            clear ha hU hD ha0
                            rw [if_pos (by rfl)]
                            go_simp
                            exact hK _ hC (Below.refl _ _)
                        case finS =>
                          intro vs W hC hE hU
                          rw [ha0]
                          clear hU hsz tb9 tb11 tb15
                          have e8 : vs 8 = .bool false := hE 8 (by simp)
                          simp only [fillA, Act.put, List.setIfInBounds_toArray, List.set_cons_zero, List.set_cons_succ, Nat.zero_add, Nat.reduceAdd, e8]
                          obtain ⟨u0, hu0⟩ : ∃ v0, vs 0 = v0 := ⟨_, rfl⟩
                          obtain ⟨u1, hu1⟩ : ∃ v0, vs 1 = v0 := ⟨_, rfl⟩
                          obtain ⟨u2, hu2⟩ : ∃ v0, vs 2 = v0 := ⟨_, rfl⟩
                          obtain ⟨u3, hu3⟩ : ∃ v0, vs 3 = v0 := ⟨_, rfl⟩
                          obtain ⟨u4, hu4⟩ : ∃ v0, vs 4 = v0 := ⟨_, rfl⟩
                          obtain ⟨u5, hu5⟩ : ∃ v0, vs 5 = v0 := ⟨_, rfl⟩
                          obtain ⟨u6, hu6⟩ : ∃ v0, vs 6 = v0 := ⟨_, rfl⟩
                          obtain ⟨u7, hu7⟩ : ∃ v0, vs 7 = v0 := ⟨_, rfl⟩
                          rw [hu0, hu1, hu2, hu3, hu4, hu5, hu6, hu7]
                          clear hu0 hu1 hu2 hu3 hu4 hu5 hu6 hu7
                          have HEND : Hid (Below V10.heap.size V10 W) := bl_call HBk.out (bl_call H1W.out hC (Nat.le_refl _)) (Nat.le_refl _)
                          clear hE e8 hC
                          go_simp
                          go_wp2_with fail
                          go_roundw
                          case rel => exact ⟨k + 1, false, by omega, by go_num, rfl, ⟨(fun h => by cases h), (fun _ => HNX.out)⟩, HEND.out⟩
                          case measure => simp [intOf]; omega
              · obtain rfl : k = nO := by omega
                have hki : ¬ (k : Int) < k := by omega
                cases β with
                | true =>
                  have hlt2 : lk = true := HLX.out (HQ.out.1 rfl)
                  subst hlt2
                  go_wp2_with fail
                  refine (awake7_any wr).mono ?_
                  rintro e V99 ⟨rfl, c99⟩
                  have b99 := bl_call hBW (bl_call HBWk.out c99 (Nat.le_refl _)) (Nat.le_refl _)
                  clear c99
                  go_wp2
                  go_ret
                  exact ⟨by rfl, b99⟩
                | false =>
                  go_wp2_with fail
                  refine (awake7_any wr).mono ?_
                  rintro e V99 ⟨rfl, c99⟩
                  have b99 := bl_call hBW (bl_call HBWk.out c99 (Nat.le_refl _)) (Nat.le_refl _)
                  clear c99
                  go_wp2
                  go_ret
                  exact ⟨by rfl, b99⟩
          · have hci : ¬ (nO : Int) < nU := by omega
            have hce : ((nO : Int) == nU) = false := by simp; omega
            have hcne : ¬ nO = nU := by omega
            go_wp2_with fail
            refine (awake7_any V10).mono ?_
            rintro e V99 ⟨rfl, c99⟩
            have b99 := bl_call hBW (bl_call HB10.out c99 (Nat.le_refl _)) (Nat.le_refl _)
            clear c99
            go_wp2
            go_ret
            exact ⟨by rfl, b99⟩
        · have hfn := fewest_none HOE.out HSE.out (by rw [HRE.out]; exact hr)
          rw [HRE.out, HLK.out] at hfn
          obtain ⟨hr8, hlt⟩ := hfn
          subst hr8 hlt
          go_wp2_with fail
          refine (awake7_any V10).mono ?_
          rintro e V99 ⟨rfl, c99⟩
          have b99 := bl_call hBW (bl_call HB10.out c99 (Nat.le_refl _)) (Nat.le_refl _)
          clear c99
          go_wp2
          go_ret
          exact ⟨by rfl, b99⟩
      · obtain ⟨ev, hev⟩ : ∃ x, orderE s l p = x := ⟨_, rfl⟩
        rw [hev] at h0
        rw [hev]
        have hvb : (ev != 0) = true := by simpa using h0
        clear h0 hev
        go_wp2_with fail
        refine (awake7_any V5).mono ?_
        rintro e V99 ⟨rfl, c99⟩
        have b99 := bl_call hBW (bl_call HB5.out c99 (Nat.le_refl _)) (Nat.le_refl _)
        clear c99
        go_wp2
        go_ret
        exact ⟨by rfl, b99⟩
  · have heb : (err7 s == 0) = false := by simpa using he
    rw [heb]
    clear he heb
    go_wp2_with fail
    refine (awake7_any V1).mono ?_
    rintro e V99 ⟨rfl, c99⟩
    have b99 := bl_call hBW (bl_call b1 c99 (Nat.le_refl _)) (Nat.le_refl _)
    clear c99
    go_wp2
    go_ret
    exact ⟨by rfl, b99⟩
end Go.Proofs.YtpdldmichpmgmaaGreat
