/- Walks, layer 7: the law CastLacks. -/
import Derived.Test.YtpdldmichpmgmaaGreatCKFews
import Derived.Test.YtpdldmichpmgmaaGreatCKFttPs
import Derived.Test.YtpdldmichpmgmaaGreatCKLaw4
import Derived.Test.YtpdldmichpmgmaaGreatCKOut4
import Derived.Test.YtpdldmichpmgmaaGreatCKOuts
import Derived.Test.YtpdldmichpmgmaaGreatCKRefM
import Derived.Test.YtpdldmichpmgmaaGreatCKTold
set_option linter.unusedVariables false
set_option linter.unusedSimpArgs false
set_option linter.all false
namespace Go.Proofs.YtpdldmichpmgmaaGreat
open Go.RowKit Go.Shelf

set_option maxRecDepth 100000 in
set_option maxHeartbeats 8000000 in
theorem lacksLaw_any {A XA XB O : Option Addr} {n ca xn xc xm xd m od bits : Nat} {s : Shop} {klo khi : Int} {xs ys : List Nat} {p : List (Int × Int)} (w : World) (g : Moulds (fun _ => True) w A n s.moulds) (hX : Bytes (fun _ => True) w XA xn xs) (hY : Bytes (fun _ => True) w XB xm ys) (hP : Pairs (fun _ => True) w O m p) (hbits : bits < 256) (hca : n ≤ ca) (h1 : s.klo = klo) (h2 : s.khi = khi) :
    Calls Tryz.prog 6 #[.agg #[.int .i64 klo, .int .i64 khi, .slice A n ca], .agg #[.slice XA xn xc, .slice XB xm xd, .slice O m od], .int .u8 bits] w fun e w' => e = .returned (.bool true) ∧ Below w.heap.size w w' := by
  obtain ⟨W, hW⟩ : ∃ W, (w.alloc (.cells #[.int .i64 klo, .int .i64 khi, .slice A n ca] 26)).alloc (.cells #[.slice XA xn xc, .slice XB xm xd, .slice O m od] 44) = W := ⟨_, rfl⟩
  have X : Blk W w.heap.size 26 #[.int .i64 klo, .int .i64 khi, .slice A n ca] := by rw [← hW]; exact (Blk.new _ _ _ rfl).alloc _
  have Z : Blk W (w.heap.size + 1) 44 #[.slice XA xn xc, .slice XB xm xd, .slice O m od] := by rw [← hW]; exact Blk.new _ _ _ (by simp)
  have hBW : Below w.heap.size w W := by rw [← hW]; exact bl_alloc (bl_alloc (Below.refl _ _) _ (Nat.le_refl _)) _ (Nat.le_refl _)
  have HG : Hid (∀ V, Below W.heap.size W V → Moulds (fun _ => True) V A n s.moulds) := fun V hb => (g.keep MouldR.good (Keeps.below hBW)).keep MouldR.good (Keeps.below hb)
  have HXS : Hid (∀ V, Below W.heap.size W V → Bytes (fun _ => True) V XA xn xs) := fun V hb => (hX.keep ByteR.good (Keeps.below hBW)).keep ByteR.good (Keeps.below hb)
  have HYS : Hid (∀ V, Below W.heap.size W V → Bytes (fun _ => True) V XB xm ys) := fun V hb => (hY.keep ByteR.good (Keeps.below hBW)).keep ByteR.good (Keeps.below hb)
  have HPS : Hid (∀ V, Below W.heap.size W V → Pairs (fun _ => True) V O m p) := fun V hb => (hP.keep PairR.good (Keeps.below hBW)).keep PairR.good (Keeps.below hb)
  have kk : Hid (∀ V, Below W.heap.size W V → V.cell? ⟨w.heap.size, 0, none⟩ = some (.int .i64 klo) ∧ V.cell? ⟨w.heap.size, 1, none⟩ = some (.int .i64 khi) ∧ V.cell? ⟨w.heap.size, 2, none⟩ = some (.slice A n ca) ∧ V.cell? ⟨w.heap.size + 1, 0, none⟩ = some (.slice XA xn xc) ∧ V.cell? ⟨w.heap.size + 1, 1, none⟩ = some (.slice XB xm xd) ∧ V.cell? ⟨w.heap.size + 1, 2, none⟩ = some (.slice O m od)) :=
    fun V hb => ⟨(X.bl hb).cell 0, (X.bl hb).cell 1, (X.bl hb).cell 2, (Z.bl hb).cell 0, (Z.bl hb).cell 1, (Z.bl hb).cell 2⟩
  have Hn := Lib.hid g.len
  have Hm := Lib.hid hP.len
  have hnl := g.le
  have hml := hP.le
  clear X Z g hX hY hP
  obtain ⟨x0, x1, x2, y0, y1, y2⟩ := kk.out W (Below.refl _ _)
  go_enter Tryz.func6, Tryz.ntmps6
  go_wp2_with fail
  clear hW x0 x1 x2 y0 y1 y2
  obtain ⟨WW, hWW⟩ : ∃ V, V = W := ⟨_, rfl⟩
  subst hWW
  refine (valid7_any WW (HG.out WW (Below.refl _ _)) h1 h2).mono ?_
  rintro e V1 ⟨rfl, b1⟩
  by_cases he : err7 s = 0
  · have heb : (err7 s == 0) = true := by rw [he]; rfl
    rw [heb]
    have HE : Hid ((check7 s).2.2 = 0) := he
    have hok := okS_of HE.out
    have HOK := Lib.hid hok
    have HTR := Lib.hid (any_truth hok xs)
    obtain ⟨k0, hk0⟩ : ∃ x, anyS7 s xs = x := ⟨_, rfl⟩
    obtain ⟨tw, htw⟩ : ∃ x, anyT7 s xs = x := ⟨_, rfl⟩
    rw [hk0, htw] at HTR
    have HBD := Lib.hid (truth_bd hok HTR.out)
    have HKB := Lib.hid (truth_k hok HTR.out)
    obtain ⟨l, hl⟩ : ∃ x, toldL7 s k0 tw ys = x := ⟨_, rfl⟩
    have HSI : Hid (∀ y ∈ l, SeenIn s k0 tw y) := by rw [← hl]; exact toldL_seen hok HTR.out ys
    have HL6 : Hid (l.length ≤ 6) := by rw [← hl]; exact toldL_len _ _ _ _
    have HA : Hid (∀ V, Below WW.heap.size WW V → Calls Tryz.prog 17 #[.agg #[.int .i64 klo, .int .i64 khi, .slice A n ca], .slice XA xn xc] V fun e w' => (∃ v, e = .returned v ∧ TruthV V.heap.size k0 tw v w') ∧ Below V.heap.size V w') := fun V hb => by
      have := any7_any (ca := ca) (cc := xc) V (HG.out V hb) (HXS.out V hb) h1 h2 HOK.out
      rw [hk0, htw] at this
      exact this.mono fun e w' h => ⟨TruthV.of h.1, h.2⟩
    have HT : Hid (∀ (V : World) (B : Nat) (v : Value), Below WW.heap.size WW V → TruthV B k0 tw v V → Calls Tryz.prog 18 #[.agg #[.int .i64 klo, .int .i64 khi, .slice A n ca], v, .slice XB xm xd] V fun e w' => (∃ v, e = .returned v ∧ SeensV V.heap.size l v w') ∧ Below V.heap.size V w') := fun V B v hb hv => by
      obtain ⟨D, dc, rfl, hD⟩ := hv
      have := told7_any (klo := klo) (khi := khi) (ca := ca) (cc := xd) (dc := dc) V (HG.out V hb) (HYS.out V hb) (hD.mono PairR.good (T := fun _ => True) (fun _ _ => trivial)) HOK.out (HTR.out.len) HBD.out HKB.out
      rw [hl] at this
      exact this.mono fun e w' h => ⟨SeensV.of h.1, h.2⟩
    have HB1 := Lib.hid b1
    clear hk0 htw hl he heb b1
    go_wp2_with fail
    refine wp_frameT ?_
    intro a0 ha0
    have tb3 : a0.tmps[3]? = some (.pointer (some ⟨w.heap.size, 0, none⟩)) := by rw [ha0]; kernel_rfl
    have tb4 : a0.tmps[4]? = some (.pointer (some ⟨w.heap.size + 1, 0, none⟩)) := by rw [ha0]; kernel_rfl
    have hsz : a0.tmps.size = 168 := by rw [ha0]; kernel_rfl
    refine wp_region_list (fun W => Below V1.heap.size V1 W) (fun w w' => Below w.heap.size w w')
      [isV (.agg #[.int .i64 klo, .int .i64 khi, .slice A n ca]), isV (.agg #[.int .i64 klo, .int .i64 khi, .slice A n ca]), isV (.pointer (some ⟨w.heap.size + 1, 0, none⟩)), isV (.pointer (some ⟨w.heap.size + 1, 0, none⟩)), isV (.slice XA xn xc), TruthV V1.heap.size k0 tw, isV (.pointer (some ⟨w.heap.size + 1, 0, none⟩)), isV (.pointer (some ⟨w.heap.size + 1, 1, none⟩)), isV (.slice XB xm xd), SeensV V1.heap.size l]
      (by kernel_rfl) (by kernel_rfl) (by kernel_rfl) (by simp) (by simp) (Below.refl _ _).drew ?stabA ?stepA ?finA
    case stabA => exact (StabL.is (StabL.is (StabL.is (StabL.is (StabL.is (StabL.cons (fun v w V hC hX h => h.bl hX) (StabL.is (StabL.is (StabL.is (StabL.cons (fun v w V hC hX h => h.bl hX) StabL.nil))))))))))
    case stepA =>
      refine StepsL.isA ?_ (StepsL.isA ?_ (StepsL.isA ?_ (StepsL.isA ?_ (StepsL.isA ?_ (StepsL.consA ?_ (StepsL.isA ?_ (StepsL.isA ?_ (StepsL.isA ?_ (StepsL.consA ?_ StepsL.nil)))))))))
      · -- 0
        intro vs a W K ha hC hD hU hK
        have r3 : a.tmps[3]? = some (.pointer (some ⟨w.heap.size, 0, none⟩)) := by rw [ha, fillA_base0 (by kernel_rfl)]; exact tb3
        clear ha hU hD ha0
        rw [if_pos (by rfl)]
        obtain ⟨k1, k2, k3, k4, k5, k6⟩ := kk.out W (bl_call HB1.out hC (Nat.le_refl _))
        go_simp
        exact hK _ hC (Below.refl _ _)
      · -- 1
        intro vs a W K ha hC hD hU hK
        have r3 : a.tmps[3]? = some (.pointer (some ⟨w.heap.size, 0, none⟩)) := by rw [ha, fillA_base0 (by kernel_rfl)]; exact tb3
        clear ha hU hD ha0
        rw [if_pos (by rfl)]
        obtain ⟨k1, k2, k3, k4, k5, k6⟩ := kk.out W (bl_call HB1.out hC (Nat.le_refl _))
        go_simp
        exact hK _ hC (Below.refl _ _)
      · -- 2
        intro vs a W K ha hC hD hU hK
        have r4 : a.tmps[4]? = some (.pointer (some ⟨w.heap.size + 1, 0, none⟩)) := by rw [ha, fillA_base0 (by kernel_rfl)]; exact tb4
        clear ha hU hD ha0
        rw [if_pos (by rfl)]
        go_simp
        exact hK _ hC (Below.refl _ _)
      · -- 3
        intro vs a W K ha hC hD hU hK
        have r24 : a.tmps[24]? = some (vs 2) := by rw [ha]; exact fillA_get0 (j := 2) (by kernel_rfl) (by rw [hsz]; decide)
        have q2 : vs 2 = .pointer (some ⟨w.heap.size + 1, 0, none⟩) := hD 2 (by simp [waits, Region.binds])
        rw [q2] at r24
        clear ha hU hD ha0
        rw [if_pos (by rfl)]
        go_simp
        exact hK _ hC (Below.refl _ _)
      · -- 4
        intro vs a W K ha hC hD hU hK
        have r25 : a.tmps[25]? = some (vs 3) := by rw [ha]; exact fillA_get0 (j := 3) (by kernel_rfl) (by rw [hsz]; decide)
        have q3 : vs 3 = .pointer (some ⟨w.heap.size + 1, 0, none⟩) := hD 3 (by simp [waits, Region.binds])
        rw [q3] at r25
        clear ha hU hD ha0
        rw [if_pos (by rfl)]
        obtain ⟨k1, k2, k3, k4, k5, k6⟩ := kk.out W (bl_call HB1.out hC (Nat.le_refl _))
        go_simp
        exact hK _ hC (Below.refl _ _)
      · -- 5
        intro vs a W K ha hC hD hU hK
        have r23 : a.tmps[23]? = some (vs 1) := by rw [ha]; exact fillA_get0 (j := 1) (by kernel_rfl) (by rw [hsz]; decide)
        have q1 : vs 1 = .agg #[.int .i64 klo, .int .i64 khi, .slice A n ca] := hD 1 (by simp [waits, Region.binds])
        rw [q1] at r23
        have r26 : a.tmps[26]? = some (vs 4) := by rw [ha]; exact fillA_get0 (j := 4) (by kernel_rfl) (by rw [hsz]; decide)
        have q4 : vs 4 = .slice XA xn xc := hD 4 (by simp [waits, Region.binds])
        rw [q4] at r26
        clear ha hU hD ha0
        rw [if_pos (by rfl)]
        go_simp
        refine (HA.out W (bl_call HB1.out hC (Nat.le_refl _))).mono ?_
        rintro e w' ⟨⟨v, rfl, hv⟩, hb⟩
        exact hK _ _ (bl_call hC hb (Nat.le_refl _)) hb (hv.low hC.size)
      · -- 6
        intro vs a W K ha hC hD hU hK
        have r4 : a.tmps[4]? = some (.pointer (some ⟨w.heap.size + 1, 0, none⟩)) := by rw [ha, fillA_base0 (by kernel_rfl)]; exact tb4
        clear ha hU hD ha0
        rw [if_pos (by rfl)]
        go_simp
        exact hK _ hC (Below.refl _ _)
      · -- 7
        intro vs a W K ha hC hD hU hK
        have r28 : a.tmps[28]? = some (vs 6) := by rw [ha]; exact fillA_get0 (j := 6) (by kernel_rfl) (by rw [hsz]; decide)
        have q6 : vs 6 = .pointer (some ⟨w.heap.size + 1, 0, none⟩) := hD 6 (by simp [waits, Region.binds])
        rw [q6] at r28
        clear ha hU hD ha0
        rw [if_pos (by rfl)]
        go_simp
        exact hK _ hC (Below.refl _ _)
      · -- 8
        intro vs a W K ha hC hD hU hK
        have r29 : a.tmps[29]? = some (vs 7) := by rw [ha]; exact fillA_get0 (j := 7) (by kernel_rfl) (by rw [hsz]; decide)
        have q7 : vs 7 = .pointer (some ⟨w.heap.size + 1, 1, none⟩) := hD 7 (by simp [waits, Region.binds])
        rw [q7] at r29
        clear ha hU hD ha0
        rw [if_pos (by rfl)]
        obtain ⟨k1, k2, k3, k4, k5, k6⟩ := kk.out W (bl_call HB1.out hC (Nat.le_refl _))
        go_simp
        exact hK _ hC (Below.refl _ _)
      · -- 9
        intro vs a W K ha hC hD hU hK
        have r22 : a.tmps[22]? = some (vs 0) := by rw [ha]; exact fillA_get0 (j := 0) (by kernel_rfl) (by rw [hsz]; decide)
        have q0 : vs 0 = .agg #[.int .i64 klo, .int .i64 khi, .slice A n ca] := hD 0 (by simp [waits, Region.binds])
        rw [q0] at r22
        have r27 : a.tmps[27]? = some (vs 5) := by rw [ha]; exact fillA_get0 (j := 5) (by kernel_rfl) (by rw [hsz]; decide)
        have P5 : TruthV V1.heap.size k0 tw (vs 5) W := hD 5 (by simp [waits, Region.binds])
        obtain ⟨D27, d27, e27, hI27⟩ := P5
        rw [e27] at r27
        have r30 : a.tmps[30]? = some (vs 8) := by rw [ha]; exact fillA_get0 (j := 8) (by kernel_rfl) (by rw [hsz]; decide)
        have q8 : vs 8 = .slice XB xm xd := hD 8 (by simp [waits, Region.binds])
        rw [q8] at r30
        clear ha hU hD ha0
        rw [if_pos (by rfl)]
        go_simp
        refine (HT.out W V1.heap.size _ (bl_call HB1.out hC (Nat.le_refl _)) ⟨_, _, rfl, hI27⟩).mono ?_
        rintro e w' ⟨⟨v, rfl, hv⟩, hb⟩
        exact hK _ _ (bl_call hC hb (Nat.le_refl _)) hb (hv.low hC.size)
    case finA =>
      intro vs W hC hE hU
      rw [ha0]
      clear hU hsz tb3 tb4
      have E9 : SeensV V1.heap.size l (vs 9) W := hE 9 (by simp)
      simp only [fillA, Act.put, List.setIfInBounds_toArray, List.set_cons_zero, List.set_cons_succ, Nat.zero_add, Nat.reduceAdd]
      obtain ⟨C, cc, e9, hS⟩ := E9
      rw [e9]
      obtain ⟨u0, hu0⟩ : ∃ v0, vs 0 = v0 := ⟨_, rfl⟩
      obtain ⟨u1, hu1⟩ : ∃ v0, vs 1 = v0 := ⟨_, rfl⟩
      obtain ⟨u2, hu2⟩ : ∃ v0, vs 2 = v0 := ⟨_, rfl⟩
      obtain ⟨u3, hu3⟩ : ∃ v0, vs 3 = v0 := ⟨_, rfl⟩
      obtain ⟨u4, hu4⟩ : ∃ v0, vs 4 = v0 := ⟨_, rfl⟩
      obtain ⟨u5, hu5⟩ : ∃ v0, vs 5 = v0 := ⟨_, rfl⟩
      obtain ⟨u6, hu6⟩ : ∃ v0, vs 6 = v0 := ⟨_, rfl⟩
      obtain ⟨u7, hu7⟩ : ∃ v0, vs 7 = v0 := ⟨_, rfl⟩
      obtain ⟨u8, hu8⟩ : ∃ v0, vs 8 = v0 := ⟨_, rfl⟩
      rw [hu0, hu1, hu2, hu3, hu4, hu5, hu6, hu7, hu8]
      clear hu0 hu1 hu2 hu3 hu4 hu5 hu6 hu7 hu8
      clear hE e9 HA HT
      obtain ⟨q, hq⟩ : ∃ x, l.length = x := ⟨_, rfl⟩
      rw [hq] at hS
      rw [hq]
      have HS : Hid (∀ V, Below W.heap.size W V → SeenCs (fun _ => True) V C q l) := fun V hb => (hS.keep SeenCR.good (Keeps.below hb)).mono SeenCR.good (fun _ _ => trivial)
      have HB4 : Hid (Below WW.heap.size WW W) := bl_call HB1.out hC (Nat.le_refl _)
      clear hq hS hC HB1
      obtain ⟨V4, hV4⟩ : ∃ V, V = W := ⟨_, rfl⟩
      subst hV4
      obtain ⟨x0, x1, x2, _, _, y2⟩ := kk.out V4 HB4.out
      go_simp
      go_wp2_with fail
      clear x0 x1 x2 y2
      refine (klacks_any (cc := cc) V4 (HG.out V4 HB4.out) (HS.out V4 (Below.refl _ _)) (HPS.out V4 HB4.out) hca h1 h2).mono ?_
      rintro e V5 ⟨⟨D, dc, rfl, hD⟩, c5⟩
      obtain ⟨X, hX⟩ : ∃ x, (lacksR s l p).1 = x := ⟨_, rfl⟩
      obtain ⟨le, hle⟩ : ∃ x, (lacksR s l p).2 = x := ⟨_, rfl⟩
      rw [hX] at hD
      rw [hX, hle]
      obtain ⟨nX, hnX⟩ : ∃ x, X.length = x := ⟨_, rfl⟩
      rw [hnX] at hD
      rw [hnX]
      have HLR : Hid (lacksR s l p = (X, le)) := by rw [Hid, ← hX, ← hle]
      have HNX := Lib.hid hnX
      have hnxl := hD.le
      have HD : Hid (∀ V, Below V5.heap.size V5 V → Ints (fun _ => True) V D nX X) := fun V hb => (hD.keep IntR.good (Keeps.below hb)).mono IntR.good (fun _ _ => trivial)
      have HB5 : Hid (Below WW.heap.size WW V5) := bl_call HB4.out c5 (Nat.le_refl _)
      have H45 : Hid (Below V4.heap.size V4 V5) := c5
      clear c5 hX hle hnX hD
      obtain ⟨x0, x1, x2, _, _, y2⟩ := kk.out V5 HB5.out
      go_wp2_with fail
      clear x0 x1 x2 y2
      refine (kplan_any (cc := cc) V5 (HG.out V5 HB5.out) (HS.out V5 H45.out) (HPS.out V5 HB5.out) hca h1 h2).mono ?_
      rintro e V6 ⟨⟨D1, e1, D2, e2, rfl, _, _⟩, c6⟩
      obtain ⟨nP, hnP⟩ : ∃ x, (planR s l p).1.length = x := ⟨_, rfl⟩
      obtain ⟨nU, hnU⟩ : ∃ x, (planR s l p).2.1.length = x := ⟨_, rfl⟩
      obtain ⟨re, hre⟩ : ∃ x, (planR s l p).2.2 = x := ⟨_, rfl⟩
      rw [hnP, hnU, hre]
      have HRE := Lib.hid hre
      have HB6 : Hid (Below WW.heap.size WW V6) := bl_call HB5.out c6 (Nat.le_refl _)
      have H46 : Hid (Below V4.heap.size V4 V6) := bl_call H45.out c6 (Nat.le_refl _)
      have H56 : Hid (Below V5.heap.size V5 V6) := c6
      clear c6 hnP hnU hre
      obtain ⟨x0, x1, x2, _, _, y2⟩ := kk.out V6 HB6.out
      go_wp2_with fail
      clear x0 x1 x2 y2
      refine (rorder7_any V6 (HG.out V6 HB6.out) (HS.out V6 H46.out) (HPS.out V6 HB6.out) h1 h2).mono ?_
      rintro e V7 ⟨rfl, c7⟩
      have HB7 : Hid (Below WW.heap.size WW V7) := bl_call HB6.out c7 (Nat.le_refl _)
      have H47 : Hid (Below V4.heap.size V4 V7) := bl_call H46.out c7 (Nat.le_refl _)
      have H57 : Hid (Below V5.heap.size V5 V7) := bl_call H56.out c7 (Nat.le_refl _)
      clear c7
      by_cases h0 : orderE s l p = 0
      rotate_left
      · have hL := HLR.out
        rw [lacksR_bad h0] at hL
        injection hL with f1 f2
        have hP := HRE.out
        rw [planR_bad h0] at hP
        dsimp only at hP
        obtain rfl : nX = 0 := by rw [← HNX.out, ← f1]; rfl
        rw [f2] at h0 hP ⊢
        subst hP
        have hvb : (le != 0) = true := by simpa using h0
        have hvv : (le == le) = true := by simp
        clear h0 f1 f2
        go_wp2_with fail
        refine (awake7_any V7).mono ?_
        rintro e V99 ⟨rfl, c99⟩
        have b99 := bl_call hBW (bl_call HB7.out c99 (Nat.le_refl _)) (Nat.le_refl _)
        clear c99
        go_wp2
        go_ret
        exact ⟨by rfl, b99⟩
      have HOE := Lib.hid h0
      obtain ⟨_, _, hp1, hp6⟩ := order_zero h0
      rw [Hm.out] at hp1 hp6
      have hl0 := lacksR_0 h0
      rw [HLR.out] at hl0
      have HL0 := Lib.hid hl0
      rw [h0]
      clear h0 hl0
      obtain ⟨x0, x1, x2, _, _, y2⟩ := kk.out V7 HB7.out
      go_wp2_with fail
      clear x0 x1 x2 y2
      refine (rall7_0 V7 (HG.out V7 HB7.out) (HS.out V7 H47.out) (HPS.out V7 HB7.out) h1 h2 HOE.out).mono ?_
      rintro e V8 ⟨⟨F1, f1, rfl, hF⟩, c8⟩
      have HF : Hid (∀ V, Below V8.heap.size V8 V → Ords (fun _ => True) V F1 m (allL s l p)) := fun V hb => (hF.keep OrdR.good (Keeps.below hb)).mono OrdR.good (fun _ _ => trivial)
      have HB8 : Hid (Below WW.heap.size WW V8) := bl_call HB7.out c8 (Nat.le_refl _)
      have H58 : Hid (Below V5.heap.size V5 V8) := bl_call H57.out c8 (Nat.le_refl _)
      clear c8 hF
      obtain ⟨x0, x1, x2, _, _, y2⟩ := kk.out V8 HB8.out
      go_wp2_with fail
      clear x0 x1 x2 y2
      refine (chosen7_any (n := m) V8 (by omega) hbits).mono ?_
      rintro e V9 ⟨⟨E, nO, ec, rfl, hO⟩, c9⟩
      obtain ⟨other, hoe⟩ : ∃ x, choC bits m = x := ⟨_, rfl⟩
      rw [hoe] at hO
      have HNO := Lib.hid hO.len
      have hnol := hO.le
      have hno6 : nO ≤ m := by rw [← HNO.out, ← hoe]; exact choC_len bits m
      have HSE : Hid (other ∈ setsL p.length) := by rw [Hid, sets_mem, Hm.out, ← hoe]; exact choC_sub bits m
      have HO : Hid (∀ V, Below V9.heap.size V9 V → Ints (fun _ => True) V E nO other) := fun V hb => (hO.keep IntR.good (Keeps.below hb)).mono IntR.good (fun _ _ => trivial)
      have HB9 : Hid (Below WW.heap.size WW V9) := bl_call HB8.out c9 (Nat.le_refl _)
      have H89 : Hid (Below V8.heap.size V8 V9) := c9
      have H59 : Hid (Below V5.heap.size V5 V9) := bl_call H58.out c9 (Nat.le_refl _)
      clear hoe hO c9
      have HLACK : Hid (∀ V, Below V9.heap.size V9 V → Calls Tryz.prog 29 #[.slice F1 m f1, .slice E nO ec] V fun e w' => e = .returned (.bool (lackB (allL s l p) other)) ∧ Below V.heap.size V w') := fun V hb => by
        refine rlack7_any V (HF.out V (bl_call H89.out hb (Nat.le_refl _))) (HO.out V hb) (fun i hi => ?_) (by omega) (all40 HOE.out)
        have := (sets_set HSE.out).2 i hi
        rw [Hm.out] at this
        exact this
      obtain ⟨lb, hlb⟩ : ∃ x, lackB (allL s l p) other = x := ⟨_, rfl⟩
      rw [hlb] at HLACK
      have HLB := Lib.hid hlb
      clear hlb
      rcases Nat.eq_zero_or_pos nO with ho | ho
      · have hoi : ¬ (0 : Int) < nO := by omega
        have hoi2 : ¬ 0 < nO := by omega
        have hod : decide ((0 : Int) < nO) = false := decide_eq_false hoi
        have HLK : Hid (false = true → 1 ≤ nO ∧ lackB (allL s l p) other = true) := fun h => by cases h
        have HLF : Hid (1 ≤ nO → lackB (allL s l p) other = true → false = true) := fun h => absurd ho (by omega)
        obtain ⟨V10, hV10⟩ : ∃ V : World, V = V9 := ⟨_, rfl⟩
        have H910 : Hid (Below V9.heap.size V9 V10) := by rw [hV10]; exact Below.refl _ _
        rw [← hV10]
        clear hV10
        have HB10 : Hid (Below WW.heap.size WW V10) := bl_call HB9.out H910.out (Nat.le_refl _)
        have H510 : Hid (Below V5.heap.size V5 V10) := bl_call H59.out H910.out (Nat.le_refl _)
        have hl0 := HL0.out
        rcases hfl : fewestL (allL s l p) with _ | X2
        · rw [hfl] at hl0
          injection hl0 with g1 g2
          subst g2
          have hz := lacks_none7 HOE.out hfl
          have hr := HRE.out.symm.trans hz.1
          subst hr
          clear hz hfl
          go_wp2_with fail
          refine (awake7_any V10).mono ?_
          rintro e V99 ⟨rfl, c99⟩
          have b99 := bl_call hBW (bl_call HB10.out c99 (Nat.le_refl _)) (Nat.le_refl _)
          clear c99
          go_wp2
          go_ret
          exact ⟨by rfl, b99⟩
        rw [hfl] at hl0
        injection hl0 with g1 g2
        subst g1 g2
        obtain ⟨hr8, hx1, hset, hlx, hmin⟩ := lacks_some7 HOE.out hfl
        rw [HRE.out] at hr8
        subst hr8
        rw [HNX.out] at hx1 hmin
        have HSET := Lib.hid hset
        have HLX := Lib.hid hlx
        have HMIN : Hid (false = true → nX ≤ nO) := fun h => by
          obtain ⟨q1, q2⟩ := HLK.out h
          have := hmin other HSE.out (by rw [HNO.out]; exact q1) q2
          rw [HNO.out] at this
          exact this
        clear hset hlx hmin hfl
        have hx1i : (0 : Int) < nX := by omega
        have hx1n : 0 < nX := by omega
        have hnx6 : nX ≤ 6 := by have := set_len HSET.out; rw [HNX.out, Hm.out] at this; omega
        go_wp2_with fail
        go_loopw [17] (fun i wr => ∃ k : Nat, k ≤ nX ∧ i = .int .i64 k ∧ Hid (Below V10.heap.size V10 wr)) (fun i _ => nX - (intOf i).toNat)
        case atStart => exact ⟨0, Nat.zero_le _, rfl, Below.refl _ _⟩
        case round =>
          obtain ⟨k, hk, rfl, HBk⟩ := hrel
          have H5k : Hid (Below V5.heap.size V5 wr) := bl_call H510.out HBk.out (Nat.le_refl _)
          have HBWk : Hid (Below WW.heap.size WW wr) := bl_call HB10.out HBk.out (Nat.le_refl _)
          by_cases hlt : k < nX
          rotate_left
          · obtain rfl : k = nX := by omega
            have hki : ¬ (k : Int) < k := by omega
            have HXI : Hid (∀ i ∈ X, 0 ≤ i ∧ i < (m : Int)) := fun i hi => by have := HSET.out.2 i hi; rw [Hm.out] at this; exact this
            go_wp2_with fail
            refine (rlack7_any wr (HF.out wr (bl_call H89.out (bl_call H910.out HBk.out (Nat.le_refl _)) (Nat.le_refl _))) (HD.out wr H5k.out) HXI.out (by omega) (all40 HOE.out)).mono ?_
            rintro e V12 ⟨rfl, c12⟩
            rw [HLX.out]
            have HB12 : Hid (Below WW.heap.size WW V12) := bl_call HBWk.out c12 (Nat.le_refl _)
            clear c12
            go_wp2_with fail
            refine (awake7_any V12).mono ?_
            rintro e V99 ⟨rfl, c99⟩
            have b99 := bl_call hBW (bl_call HB12.out c99 (Nat.le_refl _)) (Nat.le_refl _)
            clear c99
            go_wp2
            go_ret
            exact ⟨by rfl, b99⟩
          have hki : (k : Int) < nX := by omega
          obtain ⟨bD, oD, x, hDe, hxc, Hx⟩ := Ints.get (HD.out wr H5k.out) hlt
          subst hDe
          have hxb := HSET.out.2 x (List.mem_of_getElem? Hx.out)
          rw [Hm.out] at hxb
          have hxn : ¬ x < 0 := by omega
          have hxnd : decide (x < 0) = false := decide_eq_false hxn
          have hxm : ¬ (m : Int) ≤ x := by omega
          have hxmd : decide ((m : Int) ≤ x) = false := decide_eq_false hxm
          have kx : Hid (∀ V, Below wr.heap.size wr V → V.cell? ⟨bD, oD + k, none⟩ = some (.int .i64 x)) := fun V hb => getc hb hxc
          clear hxc hxb
          rcases Nat.eq_zero_or_pos k with hk0 | hkp
          · subst hk0
            go_wp2_with fail
            refine wp_frameT ?_
            intro a0 ha0
            have tb4 : a0.tmps[4]? = some (.pointer (some ⟨w.heap.size + 1, 0, none⟩)) := by rw [ha0]; kernel_rfl
            have tb8 : a0.tmps[8]? = some (.slice (some ⟨bD, oD, none⟩) nX dc) := by rw [ha0]; kernel_rfl
            have tb17 : a0.tmps[17]? = some (.int .i64 ((0 : Nat) : Int)) := by rw [ha0]; kernel_rfl
            have hsz : a0.tmps.size = 168 := by rw [ha0]; kernel_rfl
            refine wp_region_list (fun W => Below wr.heap.size wr W) (fun w w' => Below w.heap.size w w')
              [isV (.slice (some ⟨bD, oD, none⟩) nX dc), isV (.int .i64 ((0 : Nat) : Int)), isV (.pointer (some ⟨bD, oD + 0, none⟩)), isV (.int .i64 x), isV (.bool false), isV (.bool false), isV (.slice (some ⟨bD, oD, none⟩) nX dc), isV (.int .i64 ((0 : Nat) : Int)), isV (.pointer (some ⟨bD, oD + 0, none⟩)), isV (.int .i64 x), isV (.pointer (some ⟨w.heap.size + 1, 2, none⟩)), isV (.slice O m od), isV (.int .i64 (m : Int)), isV (.bool false), isV (.bool false), isV (.bool false), isV (.int .i64 ((0 : Nat) : Int)), isV (.bool false), isV (.bool false), isV (undef), isV (undef), isV (undef), isV (undef), isV (undef), isV (undef), isV (undef), isV (undef), isV (undef), isV (undef), isV (.bool false), isV (.bool false)]
              (by kernel_rfl) (by kernel_rfl) (by kernel_rfl) (by simp) (by simp) (Below.refl _ _).drew ?stabAx ?stepAx ?finAx
            case stabAx => exact (StabL.is (StabL.is (StabL.is (StabL.is (StabL.is (StabL.is (StabL.is (StabL.is (StabL.is (StabL.is (StabL.is (StabL.is (StabL.is (StabL.is (StabL.is (StabL.is (StabL.is (StabL.is (StabL.is (StabL.is (StabL.is (StabL.is (StabL.is (StabL.is (StabL.is (StabL.is (StabL.is (StabL.is (StabL.is (StabL.is (StabL.is StabL.nil)))))))))))))))))))))))))))))))
            case stepAx =>
              refine StepsL.isA ?_ (StepsL.isA ?_ (StepsL.isA ?_ (StepsL.isA ?_ (StepsL.isA ?_ (StepsL.isA ?_ (StepsL.isA ?_ (StepsL.isA ?_ (StepsL.isA ?_ (StepsL.isA ?_ (StepsL.isA ?_ (StepsL.isA ?_ (StepsL.isA ?_ (StepsL.isA ?_ (StepsL.isA ?_ (StepsL.isA ?_ (StepsL.isA ?_ (StepsL.isA ?_ (StepsL.isA ?_ (StepsL.isA ?_ (StepsL.isA ?_ (StepsL.isA ?_ (StepsL.isA ?_ (StepsL.isA ?_ (StepsL.isA ?_ (StepsL.isA ?_ (StepsL.isA ?_ (StepsL.isA ?_ (StepsL.isA ?_ (StepsL.isA ?_ (StepsL.isA ?_ StepsL.nil))))))))))))))))))))))))))))))
              · -- 0
                intro vs a W K ha hC hD hU hK
                have r8 : a.tmps[8]? = some (.slice (some ⟨bD, oD, none⟩) nX dc) := by rw [ha, fillA_base0 (by kernel_rfl)]; exact tb8
                clear ha hU hD ha0
                rw [if_pos (by rfl)]
                go_simp
                exact hK _ hC (Below.refl _ _)
              · -- 1
                intro vs a W K ha hC hD hU hK
                have r17 : a.tmps[17]? = some (.int .i64 ((0 : Nat) : Int)) := by rw [ha, fillA_base0 (by kernel_rfl)]; exact tb17
                clear ha hU hD ha0
                rw [if_pos (by rfl)]
                go_simp
                exact hK _ hC (Below.refl _ _)
              · -- 2
                intro vs a W K ha hC hD hU hK
                have r111 : a.tmps[111]? = some (vs 0) := by rw [ha]; exact fillA_get0 (j := 0) (by kernel_rfl) (by rw [hsz]; decide)
                have q0 : vs 0 = .slice (some ⟨bD, oD, none⟩) nX dc := hD 0 (by simp [waits, Region.binds])
                rw [q0] at r111
                have r112 : a.tmps[112]? = some (vs 1) := by rw [ha]; exact fillA_get0 (j := 1) (by kernel_rfl) (by rw [hsz]; decide)
                have q1 : vs 1 = .int .i64 ((0 : Nat) : Int) := hD 1 (by simp [waits, Region.binds])
                rw [q1] at r112
                clear ha hU hD ha0
                rw [if_pos (by rfl)]
                go_simp
                exact hK _ hC (Below.refl _ _)
              · -- 3
                intro vs a W K ha hC hD hU hK
                have r113 : a.tmps[113]? = some (vs 2) := by rw [ha]; exact fillA_get0 (j := 2) (by kernel_rfl) (by rw [hsz]; decide)
                have q2 : vs 2 = .pointer (some ⟨bD, oD + 0, none⟩) := hD 2 (by simp [waits, Region.binds])
                rw [q2] at r113
                clear ha hU hD ha0
                rw [if_pos (by rfl)]
                obtain ⟨k1, k2, k3, k4, k5, k6⟩ := kk.out W (bl_call HBWk.out hC (Nat.le_refl _))
                have kxx : W.cell? ⟨bD, oD, none⟩ = some (.int .i64 x) := by simpa using kx.out W hC
                go_simp
                exact hK _ hC (Below.refl _ _)
              · -- 4
                intro vs a W K ha hC hD hU hK
                have r114 : a.tmps[114]? = some (vs 3) := by rw [ha]; exact fillA_get0 (j := 3) (by kernel_rfl) (by rw [hsz]; decide)
                have q3 : vs 3 = .int .i64 x := hD 3 (by simp [waits, Region.binds])
                rw [q3] at r114
                clear ha hU hD ha0
                rw [if_pos (by rfl)]
                go_simp
                exact hK _ hC (Below.refl _ _)
              · -- 5
                intro vs a W K ha hC hD hU hK
                have r115 : a.tmps[115]? = some (vs 4) := by rw [ha]; exact fillA_get0 (j := 4) (by kernel_rfl) (by rw [hsz]; decide)
                have q4 : vs 4 = .bool false := hD 4 (by simp [waits, Region.binds])
                rw [q4] at r115
                clear ha hU hD ha0
                rw [if_pos (by rfl)]
                go_simp
                exact hK _ hC (Below.refl _ _)
              · -- 6
                intro vs a W K ha hC hD hU hK
                have r116 : a.tmps[116]? = some (vs 5) := by rw [ha]; exact fillA_get0 (j := 5) (by kernel_rfl) (by rw [hsz]; decide)
                have q5 : vs 5 = .bool false := hD 5 (by simp [waits, Region.binds])
                rw [q5] at r116
                have r8 : a.tmps[8]? = some (.slice (some ⟨bD, oD, none⟩) nX dc) := by rw [ha, fillA_base0 (by kernel_rfl)]; exact tb8
                clear ha hU hD ha0
                rw [if_pos (by simp [Region.wanted, yielded, r116])]
                go_simp
                exact hK _ hC (Below.refl _ _)
              · -- 7
                intro vs a W K ha hC hD hU hK
                have r116 : a.tmps[116]? = some (vs 5) := by rw [ha]; exact fillA_get0 (j := 5) (by kernel_rfl) (by rw [hsz]; decide)
                have q5 : vs 5 = .bool false := hD 5 (by simp [waits, Region.binds])
                rw [q5] at r116
                have r17 : a.tmps[17]? = some (.int .i64 ((0 : Nat) : Int)) := by rw [ha, fillA_base0 (by kernel_rfl)]; exact tb17
                clear ha hU hD ha0
                rw [if_pos (by simp [Region.wanted, yielded, r116])]
                go_simp
                exact hK _ hC (Below.refl _ _)
              · -- 8
                intro vs a W K ha hC hD hU hK
                have r116 : a.tmps[116]? = some (vs 5) := by rw [ha]; exact fillA_get0 (j := 5) (by kernel_rfl) (by rw [hsz]; decide)
                have q5 : vs 5 = .bool false := hD 5 (by simp [waits, Region.binds])
                rw [q5] at r116
                have r117 : a.tmps[117]? = some (vs 6) := by rw [ha]; exact fillA_get0 (j := 6) (by kernel_rfl) (by rw [hsz]; decide)
                have q6 : vs 6 = .slice (some ⟨bD, oD, none⟩) nX dc := hD 6 (by simp [waits, Region.binds])
                rw [q6] at r117
                have r118 : a.tmps[118]? = some (vs 7) := by rw [ha]; exact fillA_get0 (j := 7) (by kernel_rfl) (by rw [hsz]; decide)
                have q7 : vs 7 = .int .i64 ((0 : Nat) : Int) := hD 7 (by simp [waits, Region.binds])
                rw [q7] at r118
                clear ha hU hD ha0
                rw [if_pos (by simp [Region.wanted, yielded, r116])]
                go_simp
                exact hK _ hC (Below.refl _ _)
              · -- 9
                intro vs a W K ha hC hD hU hK
                have r116 : a.tmps[116]? = some (vs 5) := by rw [ha]; exact fillA_get0 (j := 5) (by kernel_rfl) (by rw [hsz]; decide)
                have q5 : vs 5 = .bool false := hD 5 (by simp [waits, Region.binds])
                rw [q5] at r116
                have r119 : a.tmps[119]? = some (vs 8) := by rw [ha]; exact fillA_get0 (j := 8) (by kernel_rfl) (by rw [hsz]; decide)
                have q8 : vs 8 = .pointer (some ⟨bD, oD + 0, none⟩) := hD 8 (by simp [waits, Region.binds])
                rw [q8] at r119
                clear ha hU hD ha0
                rw [if_pos (by simp [Region.wanted, yielded, r116])]
                obtain ⟨k1, k2, k3, k4, k5, k6⟩ := kk.out W (bl_call HBWk.out hC (Nat.le_refl _))
                have kxx : W.cell? ⟨bD, oD, none⟩ = some (.int .i64 x) := by simpa using kx.out W hC
                go_simp
                exact hK _ hC (Below.refl _ _)
              · -- 10
                intro vs a W K ha hC hD hU hK
                have r116 : a.tmps[116]? = some (vs 5) := by rw [ha]; exact fillA_get0 (j := 5) (by kernel_rfl) (by rw [hsz]; decide)
                have q5 : vs 5 = .bool false := hD 5 (by simp [waits, Region.binds])
                rw [q5] at r116
                have r4 : a.tmps[4]? = some (.pointer (some ⟨w.heap.size + 1, 0, none⟩)) := by rw [ha, fillA_base0 (by kernel_rfl)]; exact tb4
                clear ha hU hD ha0
                rw [if_pos (by simp [Region.wanted, yielded, r116])]
                go_simp
                exact hK _ hC (Below.refl _ _)
              · -- 11
                intro vs a W K ha hC hD hU hK
                have r116 : a.tmps[116]? = some (vs 5) := by rw [ha]; exact fillA_get0 (j := 5) (by kernel_rfl) (by rw [hsz]; decide)
                have q5 : vs 5 = .bool false := hD 5 (by simp [waits, Region.binds])
                rw [q5] at r116
                have r121 : a.tmps[121]? = some (vs 10) := by rw [ha]; exact fillA_get0 (j := 10) (by kernel_rfl) (by rw [hsz]; decide)
                have q10 : vs 10 = .pointer (some ⟨w.heap.size + 1, 2, none⟩) := hD 10 (by simp [waits, Region.binds])
                rw [q10] at r121
                clear ha hU hD ha0
                rw [if_pos (by simp [Region.wanted, yielded, r116])]
                obtain ⟨k1, k2, k3, k4, k5, k6⟩ := kk.out W (bl_call HBWk.out hC (Nat.le_refl _))
                have kxx : W.cell? ⟨bD, oD, none⟩ = some (.int .i64 x) := by simpa using kx.out W hC
                go_simp
                exact hK _ hC (Below.refl _ _)
              · -- 12
                intro vs a W K ha hC hD hU hK
                have r116 : a.tmps[116]? = some (vs 5) := by rw [ha]; exact fillA_get0 (j := 5) (by kernel_rfl) (by rw [hsz]; decide)
                have q5 : vs 5 = .bool false := hD 5 (by simp [waits, Region.binds])
                rw [q5] at r116
                have r122 : a.tmps[122]? = some (vs 11) := by rw [ha]; exact fillA_get0 (j := 11) (by kernel_rfl) (by rw [hsz]; decide)
                have q11 : vs 11 = .slice O m od := hD 11 (by simp [waits, Region.binds])
                rw [q11] at r122
                clear ha hU hD ha0
                rw [if_pos (by simp [Region.wanted, yielded, r116])]
                go_simp
                exact hK _ hC (Below.refl _ _)
              · -- 13
                intro vs a W K ha hC hD hU hK
                have r116 : a.tmps[116]? = some (vs 5) := by rw [ha]; exact fillA_get0 (j := 5) (by kernel_rfl) (by rw [hsz]; decide)
                have q5 : vs 5 = .bool false := hD 5 (by simp [waits, Region.binds])
                rw [q5] at r116
                have r120 : a.tmps[120]? = some (vs 9) := by rw [ha]; exact fillA_get0 (j := 9) (by kernel_rfl) (by rw [hsz]; decide)
                have q9 : vs 9 = .int .i64 x := hD 9 (by simp [waits, Region.binds])
                rw [q9] at r120
                have r123 : a.tmps[123]? = some (vs 12) := by rw [ha]; exact fillA_get0 (j := 12) (by kernel_rfl) (by rw [hsz]; decide)
                have q12 : vs 12 = .int .i64 (m : Int) := hD 12 (by simp [waits, Region.binds])
                rw [q12] at r123
                clear ha hU hD ha0
                rw [if_pos (by simp [Region.wanted, yielded, r116])]
                go_simp
                exact hK _ hC (Below.refl _ _)
              · -- 14
                intro vs a W K ha hC hD hU hK
                have r116 : a.tmps[116]? = some (vs 5) := by rw [ha]; exact fillA_get0 (j := 5) (by kernel_rfl) (by rw [hsz]; decide)
                have q5 : vs 5 = .bool false := hD 5 (by simp [waits, Region.binds])
                rw [q5] at r116
                have r124 : a.tmps[124]? = some (vs 13) := by rw [ha]; exact fillA_get0 (j := 13) (by kernel_rfl) (by rw [hsz]; decide)
                have q13 : vs 13 = .bool false := hD 13 (by simp [waits, Region.binds])
                rw [q13] at r124
                clear ha hU hD ha0
                rw [if_pos (by rfl)]
                go_simp
                exact hK _ hC (Below.refl _ _)
              · -- 15
                intro vs a W K ha hC hD hU hK
                have r125 : a.tmps[125]? = some (vs 14) := by rw [ha]; exact fillA_get0 (j := 14) (by kernel_rfl) (by rw [hsz]; decide)
                have q14 : vs 14 = .bool false := hD 14 (by simp [waits, Region.binds])
                rw [q14] at r125
                clear ha hU hD ha0
                rw [if_pos (by rfl)]
                go_simp
                exact hK _ hC (Below.refl _ _)
              · -- 16
                intro vs a W K ha hC hD hU hK
                have r126 : a.tmps[126]? = some (vs 15) := by rw [ha]; exact fillA_get0 (j := 15) (by kernel_rfl) (by rw [hsz]; decide)
                have q15 : vs 15 = .bool false := hD 15 (by simp [waits, Region.binds])
                rw [q15] at r126
                have r17 : a.tmps[17]? = some (.int .i64 ((0 : Nat) : Int)) := by rw [ha, fillA_base0 (by kernel_rfl)]; exact tb17
                clear ha hU hD ha0
                rw [if_pos (by simp [Region.wanted, yielded, r126])]
                go_simp
                exact hK _ hC (Below.refl _ _)
              · -- 17
                intro vs a W K ha hC hD hU hK
                have r126 : a.tmps[126]? = some (vs 15) := by rw [ha]; exact fillA_get0 (j := 15) (by kernel_rfl) (by rw [hsz]; decide)
                have q15 : vs 15 = .bool false := hD 15 (by simp [waits, Region.binds])
                rw [q15] at r126
                have r127 : a.tmps[127]? = some (vs 16) := by rw [ha]; exact fillA_get0 (j := 16) (by kernel_rfl) (by rw [hsz]; decide)
                have q16 : vs 16 = .int .i64 ((0 : Nat) : Int) := hD 16 (by simp [waits, Region.binds])
                rw [q16] at r127
                clear ha hU hD ha0
                rw [if_pos (by simp [Region.wanted, yielded, r126])]
                go_simp
                exact hK _ hC (Below.refl _ _)
              · -- 18
                intro vs a W K ha hC hD hU hK
                have r126 : a.tmps[126]? = some (vs 15) := by rw [ha]; exact fillA_get0 (j := 15) (by kernel_rfl) (by rw [hsz]; decide)
                have q15 : vs 15 = .bool false := hD 15 (by simp [waits, Region.binds])
                rw [q15] at r126
                have r128 : a.tmps[128]? = some (vs 17) := by rw [ha]; exact fillA_get0 (j := 17) (by kernel_rfl) (by rw [hsz]; decide)
                have q17 : vs 17 = .bool false := hD 17 (by simp [waits, Region.binds])
                rw [q17] at r128
                clear ha hU hD ha0
                rw [if_pos (by simp [Region.wanted, yielded, r126])]
                go_simp
                exact hK _ hC (Below.refl _ _)
              · -- 19
                intro vs a W K ha hC hD hU hK
                have r129 : a.tmps[129]? = some (vs 18) := by rw [ha]; exact fillA_get0 (j := 18) (by kernel_rfl) (by rw [hsz]; decide)
                have q18 : vs 18 = .bool false := hD 18 (by simp [waits, Region.binds])
                rw [q18] at r129
                clear ha hU hD ha0
                rw [if_neg (by simp [Region.wanted, yielded, r129, undef])]
              · -- 20
                intro vs a W K ha hC hD hU hK
                have r129 : a.tmps[129]? = some (vs 18) := by rw [ha]; exact fillA_get0 (j := 18) (by kernel_rfl) (by rw [hsz]; decide)
                have q18 : vs 18 = .bool false := hD 18 (by simp [waits, Region.binds])
                rw [q18] at r129
                clear ha hU hD ha0
                rw [if_neg (by simp [Region.wanted, yielded, r129, undef])]
              · -- 21
                intro vs a W K ha hC hD hU hK
                have r129 : a.tmps[129]? = some (vs 18) := by rw [ha]; exact fillA_get0 (j := 18) (by kernel_rfl) (by rw [hsz]; decide)
                have q18 : vs 18 = .bool false := hD 18 (by simp [waits, Region.binds])
                rw [q18] at r129
                clear ha hU hD ha0
                rw [if_neg (by simp [Region.wanted, yielded, r129, undef])]
              · -- 22
                intro vs a W K ha hC hD hU hK
                have r129 : a.tmps[129]? = some (vs 18) := by rw [ha]; exact fillA_get0 (j := 18) (by kernel_rfl) (by rw [hsz]; decide)
                have q18 : vs 18 = .bool false := hD 18 (by simp [waits, Region.binds])
                rw [q18] at r129
                clear ha hU hD ha0
                rw [if_neg (by simp [Region.wanted, yielded, r129, undef])]
              · -- 23
                intro vs a W K ha hC hD hU hK
                have r129 : a.tmps[129]? = some (vs 18) := by rw [ha]; exact fillA_get0 (j := 18) (by kernel_rfl) (by rw [hsz]; decide)
                have q18 : vs 18 = .bool false := hD 18 (by simp [waits, Region.binds])
                rw [q18] at r129
                clear ha hU hD ha0
                rw [if_neg (by simp [Region.wanted, yielded, r129, undef])]
              · -- 24
                intro vs a W K ha hC hD hU hK
                have r129 : a.tmps[129]? = some (vs 18) := by rw [ha]; exact fillA_get0 (j := 18) (by kernel_rfl) (by rw [hsz]; decide)
                have q18 : vs 18 = .bool false := hD 18 (by simp [waits, Region.binds])
                rw [q18] at r129
                clear ha hU hD ha0
                rw [if_neg (by simp [Region.wanted, yielded, r129, undef])]
              · -- 25
                intro vs a W K ha hC hD hU hK
                have r129 : a.tmps[129]? = some (vs 18) := by rw [ha]; exact fillA_get0 (j := 18) (by kernel_rfl) (by rw [hsz]; decide)
                have q18 : vs 18 = .bool false := hD 18 (by simp [waits, Region.binds])
                rw [q18] at r129
                clear ha hU hD ha0
                rw [if_neg (by simp [Region.wanted, yielded, r129, undef])]
              · -- 26
                intro vs a W K ha hC hD hU hK
                have r129 : a.tmps[129]? = some (vs 18) := by rw [ha]; exact fillA_get0 (j := 18) (by kernel_rfl) (by rw [hsz]; decide)
                have q18 : vs 18 = .bool false := hD 18 (by simp [waits, Region.binds])
                rw [q18] at r129
                clear ha hU hD ha0
                rw [if_neg (by simp [Region.wanted, yielded, r129, undef])]
              · -- 27
                intro vs a W K ha hC hD hU hK
                have r129 : a.tmps[129]? = some (vs 18) := by rw [ha]; exact fillA_get0 (j := 18) (by kernel_rfl) (by rw [hsz]; decide)
                have q18 : vs 18 = .bool false := hD 18 (by simp [waits, Region.binds])
                rw [q18] at r129
                clear ha hU hD ha0
                rw [if_neg (by simp [Region.wanted, yielded, r129, undef])]
              · -- 28
                intro vs a W K ha hC hD hU hK
                have r129 : a.tmps[129]? = some (vs 18) := by rw [ha]; exact fillA_get0 (j := 18) (by kernel_rfl) (by rw [hsz]; decide)
                have q18 : vs 18 = .bool false := hD 18 (by simp [waits, Region.binds])
                rw [q18] at r129
                clear ha hU hD ha0
                rw [if_neg (by simp [Region.wanted, yielded, r129, undef])]
              · -- 29
                intro vs a W K ha hC hD hU hK
                have r126 : a.tmps[126]? = some (vs 15) := by rw [ha]; exact fillA_get0 (j := 15) (by kernel_rfl) (by rw [hsz]; decide)
                have q15 : vs 15 = .bool false := hD 15 (by simp [waits, Region.binds])
                rw [q15] at r126
                have r129 : a.tmps[129]? = some (vs 18) := by rw [ha]; exact fillA_get0 (j := 18) (by kernel_rfl) (by rw [hsz]; decide)
                have q18 : vs 18 = .bool false := hD 18 (by simp [waits, Region.binds])
                rw [q18] at r129
                have r139 : a.tmps[139]? = some (vs 28) := by rw [ha]; exact fillA_get0 (j := 28) (by kernel_rfl) (by rw [hsz]; decide)
                have q28 : vs 28 = undef := hD 28 (by simp [waits, Region.binds])
                rw [q28] at r139
                clear ha hU hD ha0
                rw [if_pos (by simp [Region.wanted, yielded, r126])]
                go_simp
                exact hK _ hC (Below.refl _ _)
              · -- 30
                intro vs a W K ha hC hD hU hK
                have r126 : a.tmps[126]? = some (vs 15) := by rw [ha]; exact fillA_get0 (j := 15) (by kernel_rfl) (by rw [hsz]; decide)
                have q15 : vs 15 = .bool false := hD 15 (by simp [waits, Region.binds])
                rw [q15] at r126
                have r140 : a.tmps[140]? = some (vs 29) := by rw [ha]; exact fillA_get0 (j := 29) (by kernel_rfl) (by rw [hsz]; decide)
                have q29 : vs 29 = .bool false := hD 29 (by simp [waits, Region.binds])
                rw [q29] at r140
                clear ha hU hD ha0
                rw [if_pos (by rfl)]
                go_simp
                exact hK _ hC (Below.refl _ _)
            case finAx =>
              refine Fin1.none (Nat.le_refl _) ?_
              intro vs W a1 hC hE ha
              have eL : vs 30 = .bool false := hE 30 (by simp)
              rw [ha, ha0]
              clear ha ha0 hsz tb4 tb8 tb17
              simp only [fillA, Act.put, List.setIfInBounds_toArray, List.set_cons_zero, List.set_cons_succ, Nat.zero_add, Nat.reduceAdd, eL]
              obtain ⟨u0, hu0⟩ : ∃ v0, vs 0 = v0 := ⟨_, rfl⟩
              obtain ⟨u1, hu1⟩ : ∃ v0, vs 1 = v0 := ⟨_, rfl⟩
              obtain ⟨u2, hu2⟩ : ∃ v0, vs 2 = v0 := ⟨_, rfl⟩
              obtain ⟨u3, hu3⟩ : ∃ v0, vs 3 = v0 := ⟨_, rfl⟩
              obtain ⟨u4, hu4⟩ : ∃ v0, vs 4 = v0 := ⟨_, rfl⟩
              obtain ⟨u5, hu5⟩ : ∃ v0, vs 5 = v0 := ⟨_, rfl⟩
              obtain ⟨u6, hu6⟩ : ∃ v0, vs 6 = v0 := ⟨_, rfl⟩
              obtain ⟨u7, hu7⟩ : ∃ v0, vs 7 = v0 := ⟨_, rfl⟩
              obtain ⟨u8, hu8⟩ : ∃ v0, vs 8 = v0 := ⟨_, rfl⟩
              obtain ⟨u9, hu9⟩ : ∃ v0, vs 9 = v0 := ⟨_, rfl⟩
              obtain ⟨u10, hu10⟩ : ∃ v0, vs 10 = v0 := ⟨_, rfl⟩
              obtain ⟨u11, hu11⟩ : ∃ v0, vs 11 = v0 := ⟨_, rfl⟩
              obtain ⟨u12, hu12⟩ : ∃ v0, vs 12 = v0 := ⟨_, rfl⟩
              obtain ⟨u13, hu13⟩ : ∃ v0, vs 13 = v0 := ⟨_, rfl⟩
              obtain ⟨u14, hu14⟩ : ∃ v0, vs 14 = v0 := ⟨_, rfl⟩
              obtain ⟨u15, hu15⟩ : ∃ v0, vs 15 = v0 := ⟨_, rfl⟩
              obtain ⟨u16, hu16⟩ : ∃ v0, vs 16 = v0 := ⟨_, rfl⟩
              obtain ⟨u17, hu17⟩ : ∃ v0, vs 17 = v0 := ⟨_, rfl⟩
              obtain ⟨u18, hu18⟩ : ∃ v0, vs 18 = v0 := ⟨_, rfl⟩
              obtain ⟨u19, hu19⟩ : ∃ v0, vs 19 = v0 := ⟨_, rfl⟩
              obtain ⟨u20, hu20⟩ : ∃ v0, vs 20 = v0 := ⟨_, rfl⟩
              obtain ⟨u21, hu21⟩ : ∃ v0, vs 21 = v0 := ⟨_, rfl⟩
              obtain ⟨u22, hu22⟩ : ∃ v0, vs 22 = v0 := ⟨_, rfl⟩
              obtain ⟨u23, hu23⟩ : ∃ v0, vs 23 = v0 := ⟨_, rfl⟩
              obtain ⟨u24, hu24⟩ : ∃ v0, vs 24 = v0 := ⟨_, rfl⟩
              obtain ⟨u25, hu25⟩ : ∃ v0, vs 25 = v0 := ⟨_, rfl⟩
              obtain ⟨u26, hu26⟩ : ∃ v0, vs 26 = v0 := ⟨_, rfl⟩
              obtain ⟨u27, hu27⟩ : ∃ v0, vs 27 = v0 := ⟨_, rfl⟩
              obtain ⟨u28, hu28⟩ : ∃ v0, vs 28 = v0 := ⟨_, rfl⟩
              obtain ⟨u29, hu29⟩ : ∃ v0, vs 29 = v0 := ⟨_, rfl⟩
              rw [hu0, hu1, hu2, hu3, hu4, hu5, hu6, hu7, hu8, hu9, hu10, hu11, hu12, hu13, hu14, hu15, hu16, hu17, hu18, hu19, hu20, hu21, hu22, hu23, hu24, hu25, hu26, hu27, hu28, hu29]
              clear hu0 hu1 hu2 hu3 hu4 hu5 hu6 hu7 hu8 hu9 hu10 hu11 hu12 hu13 hu14 hu15 hu16 hu17 hu18 hu19 hu20 hu21 hu22 hu23 hu24 hu25 hu26 hu27 hu28 hu29
              have HEND : Hid (Below V10.heap.size V10 W) := bl_call HBk.out hC (Nat.le_refl _)
              clear hE eL hC
              go_wp2_with fail
              go_roundw
              case rel => exact ⟨0 + 1, by omega, by go_num, HEND.out⟩
              case measure => simp [intOf]; omega
          · obtain ⟨k1x, hk1⟩ : ∃ j1, k = j1 + 1 := ⟨k - 1, by omega⟩
            obtain ⟨b3, o3, x1, hEe3, hx1c, Hx1⟩ := Ints.get (HD.out wr H5k.out) (show k1x < nX by omega)
            injection hEe3 with hEe3
            injection hEe3 with f1 f2
            subst f1 f2
            have hxx := set_asc7 HSET.out Hx1.out (by rw [← hk1]; exact Hx.out)
            have hle3 : ¬ x ≤ x1 := by omega
            have hle3d : decide (x ≤ x1) = false := decide_eq_false hle3
            have kx1 : Hid (∀ V, Below wr.heap.size wr V → V.cell? ⟨bD, oD + k1x, none⟩ = some (.int .i64 x1)) := fun V hb => getc hb hx1c
            have hwk : IntKind.i64.wrap ((k : Int) - 1) = (k1x : Int) := by rw [IntKind.wrap_i64]; omega
            have hk1n : k1x < nX := by omega
            have hk1i : (k1x : Int) < nX := by omega
            have hkpi : (0 : Int) < (k : Int) := by omega
            clear hk1 hx1c hxx
            go_wp2_with fail
            refine wp_frameT ?_
            intro a0 ha0
            have tb4 : a0.tmps[4]? = some (.pointer (some ⟨w.heap.size + 1, 0, none⟩)) := by rw [ha0]; kernel_rfl
            have tb8 : a0.tmps[8]? = some (.slice (some ⟨bD, oD, none⟩) nX dc) := by rw [ha0]; kernel_rfl
            have tb17 : a0.tmps[17]? = some (.int .i64 (k : Int)) := by rw [ha0]; kernel_rfl
            have hsz : a0.tmps.size = 168 := by rw [ha0]; kernel_rfl
            refine wp_region_list (fun W => Below wr.heap.size wr W) (fun w w' => Below w.heap.size w w')
              [isV (.slice (some ⟨bD, oD, none⟩) nX dc), isV (.int .i64 (k : Int)), isV (.pointer (some ⟨bD, oD + k, none⟩)), isV (.int .i64 x), isV (.bool false), isV (.bool false), isV (.slice (some ⟨bD, oD, none⟩) nX dc), isV (.int .i64 (k : Int)), isV (.pointer (some ⟨bD, oD + k, none⟩)), isV (.int .i64 x), isV (.pointer (some ⟨w.heap.size + 1, 2, none⟩)), isV (.slice O m od), isV (.int .i64 (m : Int)), isV (.bool false), isV (.bool false), isV (.bool false), isV (.int .i64 (k : Int)), isV (.bool true), isV (.bool true), isV (.slice (some ⟨bD, oD, none⟩) nX dc), isV (.int .i64 (k : Int)), isV (.pointer (some ⟨bD, oD + k, none⟩)), isV (.int .i64 x), isV (.slice (some ⟨bD, oD, none⟩) nX dc), isV (.int .i64 (k : Int)), isV (.int .i64 (k1x : Int)), isV (.pointer (some ⟨bD, oD + k1x, none⟩)), isV (.int .i64 x1), isV (.bool false), isV (.bool false), isV (.bool false)]
              (by kernel_rfl) (by kernel_rfl) (by kernel_rfl) (by simp) (by simp) (Below.refl _ _).drew ?stabBx ?stepBx ?finBx
            case stabBx => exact (StabL.is (StabL.is (StabL.is (StabL.is (StabL.is (StabL.is (StabL.is (StabL.is (StabL.is (StabL.is (StabL.is (StabL.is (StabL.is (StabL.is (StabL.is (StabL.is (StabL.is (StabL.is (StabL.is (StabL.is (StabL.is (StabL.is (StabL.is (StabL.is (StabL.is (StabL.is (StabL.is (StabL.is (StabL.is (StabL.is (StabL.is StabL.nil)))))))))))))))))))))))))))))))
            case stepBx =>
              refine StepsL.isA ?_ (StepsL.isA ?_ (StepsL.isA ?_ (StepsL.isA ?_ (StepsL.isA ?_ (StepsL.isA ?_ (StepsL.isA ?_ (StepsL.isA ?_ (StepsL.isA ?_ (StepsL.isA ?_ (StepsL.isA ?_ (StepsL.isA ?_ (StepsL.isA ?_ (StepsL.isA ?_ (StepsL.isA ?_ (StepsL.isA ?_ (StepsL.isA ?_ (StepsL.isA ?_ (StepsL.isA ?_ (StepsL.isA ?_ (StepsL.isA ?_ (StepsL.isA ?_ (StepsL.isA ?_ (StepsL.isA ?_ (StepsL.isA ?_ (StepsL.isA ?_ (StepsL.isA ?_ (StepsL.isA ?_ (StepsL.isA ?_ (StepsL.isA ?_ (StepsL.isA ?_ StepsL.nil))))))))))))))))))))))))))))))
              · -- 0
                intro vs a W K ha hC hD hU hK
                have r8 : a.tmps[8]? = some (.slice (some ⟨bD, oD, none⟩) nX dc) := by rw [ha, fillA_base0 (by kernel_rfl)]; exact tb8
                clear ha hU hD ha0
                rw [if_pos (by rfl)]
                go_simp
                exact hK _ hC (Below.refl _ _)
              · -- 1
                intro vs a W K ha hC hD hU hK
                have r17 : a.tmps[17]? = some (.int .i64 (k : Int)) := by rw [ha, fillA_base0 (by kernel_rfl)]; exact tb17
                clear ha hU hD ha0
                rw [if_pos (by rfl)]
                go_simp
                exact hK _ hC (Below.refl _ _)
              · -- 2
                intro vs a W K ha hC hD hU hK
                have r111 : a.tmps[111]? = some (vs 0) := by rw [ha]; exact fillA_get0 (j := 0) (by kernel_rfl) (by rw [hsz]; decide)
                have q0 : vs 0 = .slice (some ⟨bD, oD, none⟩) nX dc := hD 0 (by simp [waits, Region.binds])
                rw [q0] at r111
                have r112 : a.tmps[112]? = some (vs 1) := by rw [ha]; exact fillA_get0 (j := 1) (by kernel_rfl) (by rw [hsz]; decide)
                have q1 : vs 1 = .int .i64 (k : Int) := hD 1 (by simp [waits, Region.binds])
                rw [q1] at r112
                clear ha hU hD ha0
                rw [if_pos (by rfl)]
                go_simp
                exact hK _ hC (Below.refl _ _)
              · -- 3
                intro vs a W K ha hC hD hU hK
                have r113 : a.tmps[113]? = some (vs 2) := by rw [ha]; exact fillA_get0 (j := 2) (by kernel_rfl) (by rw [hsz]; decide)
                have q2 : vs 2 = .pointer (some ⟨bD, oD + k, none⟩) := hD 2 (by simp [waits, Region.binds])
                rw [q2] at r113
                clear ha hU hD ha0
                rw [if_pos (by rfl)]
                obtain ⟨k1, k2, k3, k4, k5, k6⟩ := kk.out W (bl_call HBWk.out hC (Nat.le_refl _))
                have kxx := kx.out W hC
                have kxy := kx1.out W hC
                go_simp
                exact hK _ hC (Below.refl _ _)
              · -- 4
                intro vs a W K ha hC hD hU hK
                have r114 : a.tmps[114]? = some (vs 3) := by rw [ha]; exact fillA_get0 (j := 3) (by kernel_rfl) (by rw [hsz]; decide)
                have q3 : vs 3 = .int .i64 x := hD 3 (by simp [waits, Region.binds])
                rw [q3] at r114
                clear ha hU hD ha0
                rw [if_pos (by rfl)]
                go_simp
                exact hK _ hC (Below.refl _ _)
              · -- 5
                intro vs a W K ha hC hD hU hK
                have r115 : a.tmps[115]? = some (vs 4) := by rw [ha]; exact fillA_get0 (j := 4) (by kernel_rfl) (by rw [hsz]; decide)
                have q4 : vs 4 = .bool false := hD 4 (by simp [waits, Region.binds])
                rw [q4] at r115
                clear ha hU hD ha0
                rw [if_pos (by rfl)]
                go_simp
                exact hK _ hC (Below.refl _ _)
              · -- 6
                intro vs a W K ha hC hD hU hK
                have r116 : a.tmps[116]? = some (vs 5) := by rw [ha]; exact fillA_get0 (j := 5) (by kernel_rfl) (by rw [hsz]; decide)
                have q5 : vs 5 = .bool false := hD 5 (by simp [waits, Region.binds])
                rw [q5] at r116
                have r8 : a.tmps[8]? = some (.slice (some ⟨bD, oD, none⟩) nX dc) := by rw [ha, fillA_base0 (by kernel_rfl)]; exact tb8
                clear ha hU hD ha0
                rw [if_pos (by simp [Region.wanted, yielded, r116])]
                go_simp
                exact hK _ hC (Below.refl _ _)
              · -- 7
                intro vs a W K ha hC hD hU hK
                have r116 : a.tmps[116]? = some (vs 5) := by rw [ha]; exact fillA_get0 (j := 5) (by kernel_rfl) (by rw [hsz]; decide)
                have q5 : vs 5 = .bool false := hD 5 (by simp [waits, Region.binds])
                rw [q5] at r116
                have r17 : a.tmps[17]? = some (.int .i64 (k : Int)) := by rw [ha, fillA_base0 (by kernel_rfl)]; exact tb17
                clear ha hU hD ha0
                rw [if_pos (by simp [Region.wanted, yielded, r116])]
                go_simp
                exact hK _ hC (Below.refl _ _)
              · -- 8
                intro vs a W K ha hC hD hU hK
                have r116 : a.tmps[116]? = some (vs 5) := by rw [ha]; exact fillA_get0 (j := 5) (by kernel_rfl) (by rw [hsz]; decide)
                have q5 : vs 5 = .bool false := hD 5 (by simp [waits, Region.binds])
                rw [q5] at r116
                have r117 : a.tmps[117]? = some (vs 6) := by rw [ha]; exact fillA_get0 (j := 6) (by kernel_rfl) (by rw [hsz]; decide)
                have q6 : vs 6 = .slice (some ⟨bD, oD, none⟩) nX dc := hD 6 (by simp [waits, Region.binds])
                rw [q6] at r117
                have r118 : a.tmps[118]? = some (vs 7) := by rw [ha]; exact fillA_get0 (j := 7) (by kernel_rfl) (by rw [hsz]; decide)
                have q7 : vs 7 = .int .i64 (k : Int) := hD 7 (by simp [waits, Region.binds])
                rw [q7] at r118
                clear ha hU hD ha0
                rw [if_pos (by simp [Region.wanted, yielded, r116])]
                go_simp
                exact hK _ hC (Below.refl _ _)
              · -- 9
                intro vs a W K ha hC hD hU hK
                have r116 : a.tmps[116]? = some (vs 5) := by rw [ha]; exact fillA_get0 (j := 5) (by kernel_rfl) (by rw [hsz]; decide)
                have q5 : vs 5 = .bool false := hD 5 (by simp [waits, Region.binds])
                rw [q5] at r116
                have r119 : a.tmps[119]? = some (vs 8) := by rw [ha]; exact fillA_get0 (j := 8) (by kernel_rfl) (by rw [hsz]; decide)
                have q8 : vs 8 = .pointer (some ⟨bD, oD + k, none⟩) := hD 8 (by simp [waits, Region.binds])
                rw [q8] at r119
                clear ha hU hD ha0
                rw [if_pos (by simp [Region.wanted, yielded, r116])]
                obtain ⟨k1, k2, k3, k4, k5, k6⟩ := kk.out W (bl_call HBWk.out hC (Nat.le_refl _))
                have kxx := kx.out W hC
                have kxy := kx1.out W hC
                go_simp
                exact hK _ hC (Below.refl _ _)
              · -- 10
                intro vs a W K ha hC hD hU hK
                have r116 : a.tmps[116]? = some (vs 5) := by rw [ha]; exact fillA_get0 (j := 5) (by kernel_rfl) (by rw [hsz]; decide)
                have q5 : vs 5 = .bool false := hD 5 (by simp [waits, Region.binds])
                rw [q5] at r116
                have r4 : a.tmps[4]? = some (.pointer (some ⟨w.heap.size + 1, 0, none⟩)) := by rw [ha, fillA_base0 (by kernel_rfl)]; exact tb4
                clear ha hU hD ha0
                rw [if_pos (by simp [Region.wanted, yielded, r116])]
                go_simp
                exact hK _ hC (Below.refl _ _)
              · -- 11
                intro vs a W K ha hC hD hU hK
                have r116 : a.tmps[116]? = some (vs 5) := by rw [ha]; exact fillA_get0 (j := 5) (by kernel_rfl) (by rw [hsz]; decide)
                have q5 : vs 5 = .bool false := hD 5 (by simp [waits, Region.binds])
                rw [q5] at r116
                have r121 : a.tmps[121]? = some (vs 10) := by rw [ha]; exact fillA_get0 (j := 10) (by kernel_rfl) (by rw [hsz]; decide)
                have q10 : vs 10 = .pointer (some ⟨w.heap.size + 1, 2, none⟩) := hD 10 (by simp [waits, Region.binds])
                rw [q10] at r121
                clear ha hU hD ha0
                rw [if_pos (by simp [Region.wanted, yielded, r116])]
                obtain ⟨k1, k2, k3, k4, k5, k6⟩ := kk.out W (bl_call HBWk.out hC (Nat.le_refl _))
                have kxx := kx.out W hC
                have kxy := kx1.out W hC
                go_simp
                exact hK _ hC (Below.refl _ _)
              · -- 12
                intro vs a W K ha hC hD hU hK
                have r116 : a.tmps[116]? = some (vs 5) := by rw [ha]; exact fillA_get0 (j := 5) (by kernel_rfl) (by rw [hsz]; decide)
                have q5 : vs 5 = .bool false := hD 5 (by simp [waits, Region.binds])
                rw [q5] at r116
                have r122 : a.tmps[122]? = some (vs 11) := by rw [ha]; exact fillA_get0 (j := 11) (by kernel_rfl) (by rw [hsz]; decide)
                have q11 : vs 11 = .slice O m od := hD 11 (by simp [waits, Region.binds])
                rw [q11] at r122
                clear ha hU hD ha0
                rw [if_pos (by simp [Region.wanted, yielded, r116])]
                go_simp
                exact hK _ hC (Below.refl _ _)
              · -- 13
                intro vs a W K ha hC hD hU hK
                have r116 : a.tmps[116]? = some (vs 5) := by rw [ha]; exact fillA_get0 (j := 5) (by kernel_rfl) (by rw [hsz]; decide)
                have q5 : vs 5 = .bool false := hD 5 (by simp [waits, Region.binds])
                rw [q5] at r116
                have r120 : a.tmps[120]? = some (vs 9) := by rw [ha]; exact fillA_get0 (j := 9) (by kernel_rfl) (by rw [hsz]; decide)
                have q9 : vs 9 = .int .i64 x := hD 9 (by simp [waits, Region.binds])
                rw [q9] at r120
                have r123 : a.tmps[123]? = some (vs 12) := by rw [ha]; exact fillA_get0 (j := 12) (by kernel_rfl) (by rw [hsz]; decide)
                have q12 : vs 12 = .int .i64 (m : Int) := hD 12 (by simp [waits, Region.binds])
                rw [q12] at r123
                clear ha hU hD ha0
                rw [if_pos (by simp [Region.wanted, yielded, r116])]
                go_simp
                exact hK _ hC (Below.refl _ _)
              · -- 14
                intro vs a W K ha hC hD hU hK
                have r116 : a.tmps[116]? = some (vs 5) := by rw [ha]; exact fillA_get0 (j := 5) (by kernel_rfl) (by rw [hsz]; decide)
                have q5 : vs 5 = .bool false := hD 5 (by simp [waits, Region.binds])
                rw [q5] at r116
                have r124 : a.tmps[124]? = some (vs 13) := by rw [ha]; exact fillA_get0 (j := 13) (by kernel_rfl) (by rw [hsz]; decide)
                have q13 : vs 13 = .bool false := hD 13 (by simp [waits, Region.binds])
                rw [q13] at r124
                clear ha hU hD ha0
                rw [if_pos (by rfl)]
                go_simp
                exact hK _ hC (Below.refl _ _)
              · -- 15
                intro vs a W K ha hC hD hU hK
                have r125 : a.tmps[125]? = some (vs 14) := by rw [ha]; exact fillA_get0 (j := 14) (by kernel_rfl) (by rw [hsz]; decide)
                have q14 : vs 14 = .bool false := hD 14 (by simp [waits, Region.binds])
                rw [q14] at r125
                clear ha hU hD ha0
                rw [if_pos (by rfl)]
                go_simp
                exact hK _ hC (Below.refl _ _)
              · -- 16
                intro vs a W K ha hC hD hU hK
                have r126 : a.tmps[126]? = some (vs 15) := by rw [ha]; exact fillA_get0 (j := 15) (by kernel_rfl) (by rw [hsz]; decide)
                have q15 : vs 15 = .bool false := hD 15 (by simp [waits, Region.binds])
                rw [q15] at r126
                have r17 : a.tmps[17]? = some (.int .i64 (k : Int)) := by rw [ha, fillA_base0 (by kernel_rfl)]; exact tb17
                clear ha hU hD ha0
                rw [if_pos (by simp [Region.wanted, yielded, r126])]
                go_simp
                exact hK _ hC (Below.refl _ _)
              · -- 17
                intro vs a W K ha hC hD hU hK
                have r126 : a.tmps[126]? = some (vs 15) := by rw [ha]; exact fillA_get0 (j := 15) (by kernel_rfl) (by rw [hsz]; decide)
                have q15 : vs 15 = .bool false := hD 15 (by simp [waits, Region.binds])
                rw [q15] at r126
                have r127 : a.tmps[127]? = some (vs 16) := by rw [ha]; exact fillA_get0 (j := 16) (by kernel_rfl) (by rw [hsz]; decide)
                have q16 : vs 16 = .int .i64 (k : Int) := hD 16 (by simp [waits, Region.binds])
                rw [q16] at r127
                clear ha hU hD ha0
                rw [if_pos (by simp [Region.wanted, yielded, r126])]
                go_simp
                exact hK _ hC (Below.refl _ _)
              · -- 18
                intro vs a W K ha hC hD hU hK
                have r126 : a.tmps[126]? = some (vs 15) := by rw [ha]; exact fillA_get0 (j := 15) (by kernel_rfl) (by rw [hsz]; decide)
                have q15 : vs 15 = .bool false := hD 15 (by simp [waits, Region.binds])
                rw [q15] at r126
                have r128 : a.tmps[128]? = some (vs 17) := by rw [ha]; exact fillA_get0 (j := 17) (by kernel_rfl) (by rw [hsz]; decide)
                have q17 : vs 17 = .bool true := hD 17 (by simp [waits, Region.binds])
                rw [q17] at r128
                clear ha hU hD ha0
                rw [if_pos (by simp [Region.wanted, yielded, r126])]
                go_simp
                exact hK _ hC (Below.refl _ _)
              · -- 19
                intro vs a W K ha hC hD hU hK
                have r129 : a.tmps[129]? = some (vs 18) := by rw [ha]; exact fillA_get0 (j := 18) (by kernel_rfl) (by rw [hsz]; decide)
                have q18 : vs 18 = .bool true := hD 18 (by simp [waits, Region.binds])
                rw [q18] at r129
                have r8 : a.tmps[8]? = some (.slice (some ⟨bD, oD, none⟩) nX dc) := by rw [ha, fillA_base0 (by kernel_rfl)]; exact tb8
                clear ha hU hD ha0
                rw [if_pos (by simp [Region.wanted, yielded, r129])]
                go_simp
                exact hK _ hC (Below.refl _ _)
              · -- 20
                intro vs a W K ha hC hD hU hK
                have r129 : a.tmps[129]? = some (vs 18) := by rw [ha]; exact fillA_get0 (j := 18) (by kernel_rfl) (by rw [hsz]; decide)
                have q18 : vs 18 = .bool true := hD 18 (by simp [waits, Region.binds])
                rw [q18] at r129
                have r17 : a.tmps[17]? = some (.int .i64 (k : Int)) := by rw [ha, fillA_base0 (by kernel_rfl)]; exact tb17
                clear ha hU hD ha0
                rw [if_pos (by simp [Region.wanted, yielded, r129])]
                go_simp
                exact hK _ hC (Below.refl _ _)
              · -- 21
                intro vs a W K ha hC hD hU hK
                have r129 : a.tmps[129]? = some (vs 18) := by rw [ha]; exact fillA_get0 (j := 18) (by kernel_rfl) (by rw [hsz]; decide)
                have q18 : vs 18 = .bool true := hD 18 (by simp [waits, Region.binds])
                rw [q18] at r129
                have r130 : a.tmps[130]? = some (vs 19) := by rw [ha]; exact fillA_get0 (j := 19) (by kernel_rfl) (by rw [hsz]; decide)
                have q19 : vs 19 = .slice (some ⟨bD, oD, none⟩) nX dc := hD 19 (by simp [waits, Region.binds])
                rw [q19] at r130
                have r131 : a.tmps[131]? = some (vs 20) := by rw [ha]; exact fillA_get0 (j := 20) (by kernel_rfl) (by rw [hsz]; decide)
                have q20 : vs 20 = .int .i64 (k : Int) := hD 20 (by simp [waits, Region.binds])
                rw [q20] at r131
                clear ha hU hD ha0
                rw [if_pos (by simp [Region.wanted, yielded, r129])]
                go_simp
                exact hK _ hC (Below.refl _ _)
              · -- 22
                intro vs a W K ha hC hD hU hK
                have r129 : a.tmps[129]? = some (vs 18) := by rw [ha]; exact fillA_get0 (j := 18) (by kernel_rfl) (by rw [hsz]; decide)
                have q18 : vs 18 = .bool true := hD 18 (by simp [waits, Region.binds])
                rw [q18] at r129
                have r132 : a.tmps[132]? = some (vs 21) := by rw [ha]; exact fillA_get0 (j := 21) (by kernel_rfl) (by rw [hsz]; decide)
                have q21 : vs 21 = .pointer (some ⟨bD, oD + k, none⟩) := hD 21 (by simp [waits, Region.binds])
                rw [q21] at r132
                clear ha hU hD ha0
                rw [if_pos (by simp [Region.wanted, yielded, r129])]
                obtain ⟨k1, k2, k3, k4, k5, k6⟩ := kk.out W (bl_call HBWk.out hC (Nat.le_refl _))
                have kxx := kx.out W hC
                have kxy := kx1.out W hC
                go_simp
                exact hK _ hC (Below.refl _ _)
              · -- 23
                intro vs a W K ha hC hD hU hK
                have r129 : a.tmps[129]? = some (vs 18) := by rw [ha]; exact fillA_get0 (j := 18) (by kernel_rfl) (by rw [hsz]; decide)
                have q18 : vs 18 = .bool true := hD 18 (by simp [waits, Region.binds])
                rw [q18] at r129
                have r8 : a.tmps[8]? = some (.slice (some ⟨bD, oD, none⟩) nX dc) := by rw [ha, fillA_base0 (by kernel_rfl)]; exact tb8
                clear ha hU hD ha0
                rw [if_pos (by simp [Region.wanted, yielded, r129])]
                go_simp
                exact hK _ hC (Below.refl _ _)
              · -- 24
                intro vs a W K ha hC hD hU hK
                have r129 : a.tmps[129]? = some (vs 18) := by rw [ha]; exact fillA_get0 (j := 18) (by kernel_rfl) (by rw [hsz]; decide)
                have q18 : vs 18 = .bool true := hD 18 (by simp [waits, Region.binds])
                rw [q18] at r129
                have r17 : a.tmps[17]? = some (.int .i64 (k : Int)) := by rw [ha, fillA_base0 (by kernel_rfl)]; exact tb17
                clear ha hU hD ha0
                rw [if_pos (by simp [Region.wanted, yielded, r129])]
                go_simp
                exact hK _ hC (Below.refl _ _)
              · -- 25
                intro vs a W K ha hC hD hU hK
                have r129 : a.tmps[129]? = some (vs 18) := by rw [ha]; exact fillA_get0 (j := 18) (by kernel_rfl) (by rw [hsz]; decide)
                have q18 : vs 18 = .bool true := hD 18 (by simp [waits, Region.binds])
                rw [q18] at r129
                have r135 : a.tmps[135]? = some (vs 24) := by rw [ha]; exact fillA_get0 (j := 24) (by kernel_rfl) (by rw [hsz]; decide)
                have q24 : vs 24 = .int .i64 (k : Int) := hD 24 (by simp [waits, Region.binds])
                rw [q24] at r135
                clear ha hU hD ha0
                rw [if_pos (by simp [Region.wanted, yielded, r129])]
                go_simp
                exact hK _ hC (Below.refl _ _)
              · -- 26
                intro vs a W K ha hC hD hU hK
                have r129 : a.tmps[129]? = some (vs 18) := by rw [ha]; exact fillA_get0 (j := 18) (by kernel_rfl) (by rw [hsz]; decide)
                have q18 : vs 18 = .bool true := hD 18 (by simp [waits, Region.binds])
                rw [q18] at r129
                have r134 : a.tmps[134]? = some (vs 23) := by rw [ha]; exact fillA_get0 (j := 23) (by kernel_rfl) (by rw [hsz]; decide)
                have q23 : vs 23 = .slice (some ⟨bD, oD, none⟩) nX dc := hD 23 (by simp [waits, Region.binds])
                rw [q23] at r134
                have r136 : a.tmps[136]? = some (vs 25) := by rw [ha]; exact fillA_get0 (j := 25) (by kernel_rfl) (by rw [hsz]; decide)
                have q25 : vs 25 = .int .i64 (k1x : Int) := hD 25 (by simp [waits, Region.binds])
                rw [q25] at r136
                clear ha hU hD ha0
                rw [if_pos (by simp [Region.wanted, yielded, r129])]
                go_simp
                exact hK _ hC (Below.refl _ _)
              · -- 27
                intro vs a W K ha hC hD hU hK
                have r129 : a.tmps[129]? = some (vs 18) := by rw [ha]; exact fillA_get0 (j := 18) (by kernel_rfl) (by rw [hsz]; decide)
                have q18 : vs 18 = .bool true := hD 18 (by simp [waits, Region.binds])
                rw [q18] at r129
                have r137 : a.tmps[137]? = some (vs 26) := by rw [ha]; exact fillA_get0 (j := 26) (by kernel_rfl) (by rw [hsz]; decide)
                have q26 : vs 26 = .pointer (some ⟨bD, oD + k1x, none⟩) := hD 26 (by simp [waits, Region.binds])
                rw [q26] at r137
                clear ha hU hD ha0
                rw [if_pos (by simp [Region.wanted, yielded, r129])]
                obtain ⟨k1, k2, k3, k4, k5, k6⟩ := kk.out W (bl_call HBWk.out hC (Nat.le_refl _))
                have kxx := kx.out W hC
                have kxy := kx1.out W hC
                go_simp
                exact hK _ hC (Below.refl _ _)
              · -- 28
                intro vs a W K ha hC hD hU hK
                have r129 : a.tmps[129]? = some (vs 18) := by rw [ha]; exact fillA_get0 (j := 18) (by kernel_rfl) (by rw [hsz]; decide)
                have q18 : vs 18 = .bool true := hD 18 (by simp [waits, Region.binds])
                rw [q18] at r129
                have r133 : a.tmps[133]? = some (vs 22) := by rw [ha]; exact fillA_get0 (j := 22) (by kernel_rfl) (by rw [hsz]; decide)
                have q22 : vs 22 = .int .i64 x := hD 22 (by simp [waits, Region.binds])
                rw [q22] at r133
                have r138 : a.tmps[138]? = some (vs 27) := by rw [ha]; exact fillA_get0 (j := 27) (by kernel_rfl) (by rw [hsz]; decide)
                have q27 : vs 27 = .int .i64 x1 := hD 27 (by simp [waits, Region.binds])
                rw [q27] at r138
                clear ha hU hD ha0
                rw [if_pos (by simp [Region.wanted, yielded, r129])]
                go_simp
                exact hK _ hC (Below.refl _ _)
              · -- 29
                intro vs a W K ha hC hD hU hK
                have r126 : a.tmps[126]? = some (vs 15) := by rw [ha]; exact fillA_get0 (j := 15) (by kernel_rfl) (by rw [hsz]; decide)
                have q15 : vs 15 = .bool false := hD 15 (by simp [waits, Region.binds])
                rw [q15] at r126
                have r129 : a.tmps[129]? = some (vs 18) := by rw [ha]; exact fillA_get0 (j := 18) (by kernel_rfl) (by rw [hsz]; decide)
                have q18 : vs 18 = .bool true := hD 18 (by simp [waits, Region.binds])
                rw [q18] at r129
                have r139 : a.tmps[139]? = some (vs 28) := by rw [ha]; exact fillA_get0 (j := 28) (by kernel_rfl) (by rw [hsz]; decide)
                have q28 : vs 28 = .bool false := hD 28 (by simp [waits, Region.binds])
                rw [q28] at r139
                clear ha hU hD ha0
                rw [if_pos (by simp [Region.wanted, yielded, r126])]
                go_simp
                exact hK _ hC (Below.refl _ _)
              · -- 30
                intro vs a W K ha hC hD hU hK
                have r126 : a.tmps[126]? = some (vs 15) := by rw [ha]; exact fillA_get0 (j := 15) (by kernel_rfl) (by rw [hsz]; decide)
                have q15 : vs 15 = .bool false := hD 15 (by simp [waits, Region.binds])
                rw [q15] at r126
                have r140 : a.tmps[140]? = some (vs 29) := by rw [ha]; exact fillA_get0 (j := 29) (by kernel_rfl) (by rw [hsz]; decide)
                have q29 : vs 29 = .bool false := hD 29 (by simp [waits, Region.binds])
                rw [q29] at r140
                clear ha hU hD ha0
                rw [if_pos (by rfl)]
                go_simp
                exact hK _ hC (Below.refl _ _)
            case finBx =>
              refine Fin1.none (Nat.le_refl _) ?_
              intro vs W a1 hC hE ha
              have eL : vs 30 = .bool false := hE 30 (by simp)
              rw [ha, ha0]
              clear ha ha0 hsz tb4 tb8 tb17
              simp only [fillA, Act.put, List.setIfInBounds_toArray, List.set_cons_zero, List.set_cons_succ, Nat.zero_add, Nat.reduceAdd, eL]
              obtain ⟨u0, hu0⟩ : ∃ v0, vs 0 = v0 := ⟨_, rfl⟩
              obtain ⟨u1, hu1⟩ : ∃ v0, vs 1 = v0 := ⟨_, rfl⟩
              obtain ⟨u2, hu2⟩ : ∃ v0, vs 2 = v0 := ⟨_, rfl⟩
              obtain ⟨u3, hu3⟩ : ∃ v0, vs 3 = v0 := ⟨_, rfl⟩
              obtain ⟨u4, hu4⟩ : ∃ v0, vs 4 = v0 := ⟨_, rfl⟩
              obtain ⟨u5, hu5⟩ : ∃ v0, vs 5 = v0 := ⟨_, rfl⟩
              obtain ⟨u6, hu6⟩ : ∃ v0, vs 6 = v0 := ⟨_, rfl⟩
              obtain ⟨u7, hu7⟩ : ∃ v0, vs 7 = v0 := ⟨_, rfl⟩
              obtain ⟨u8, hu8⟩ : ∃ v0, vs 8 = v0 := ⟨_, rfl⟩
              obtain ⟨u9, hu9⟩ : ∃ v0, vs 9 = v0 := ⟨_, rfl⟩
              obtain ⟨u10, hu10⟩ : ∃ v0, vs 10 = v0 := ⟨_, rfl⟩
              obtain ⟨u11, hu11⟩ : ∃ v0, vs 11 = v0 := ⟨_, rfl⟩
              obtain ⟨u12, hu12⟩ : ∃ v0, vs 12 = v0 := ⟨_, rfl⟩
              obtain ⟨u13, hu13⟩ : ∃ v0, vs 13 = v0 := ⟨_, rfl⟩
              obtain ⟨u14, hu14⟩ : ∃ v0, vs 14 = v0 := ⟨_, rfl⟩
              obtain ⟨u15, hu15⟩ : ∃ v0, vs 15 = v0 := ⟨_, rfl⟩
              obtain ⟨u16, hu16⟩ : ∃ v0, vs 16 = v0 := ⟨_, rfl⟩
              obtain ⟨u17, hu17⟩ : ∃ v0, vs 17 = v0 := ⟨_, rfl⟩
              obtain ⟨u18, hu18⟩ : ∃ v0, vs 18 = v0 := ⟨_, rfl⟩
              obtain ⟨u19, hu19⟩ : ∃ v0, vs 19 = v0 := ⟨_, rfl⟩
              obtain ⟨u20, hu20⟩ : ∃ v0, vs 20 = v0 := ⟨_, rfl⟩
              obtain ⟨u21, hu21⟩ : ∃ v0, vs 21 = v0 := ⟨_, rfl⟩
              obtain ⟨u22, hu22⟩ : ∃ v0, vs 22 = v0 := ⟨_, rfl⟩
              obtain ⟨u23, hu23⟩ : ∃ v0, vs 23 = v0 := ⟨_, rfl⟩
              obtain ⟨u24, hu24⟩ : ∃ v0, vs 24 = v0 := ⟨_, rfl⟩
              obtain ⟨u25, hu25⟩ : ∃ v0, vs 25 = v0 := ⟨_, rfl⟩
              obtain ⟨u26, hu26⟩ : ∃ v0, vs 26 = v0 := ⟨_, rfl⟩
              obtain ⟨u27, hu27⟩ : ∃ v0, vs 27 = v0 := ⟨_, rfl⟩
              obtain ⟨u28, hu28⟩ : ∃ v0, vs 28 = v0 := ⟨_, rfl⟩
              obtain ⟨u29, hu29⟩ : ∃ v0, vs 29 = v0 := ⟨_, rfl⟩
              rw [hu0, hu1, hu2, hu3, hu4, hu5, hu6, hu7, hu8, hu9, hu10, hu11, hu12, hu13, hu14, hu15, hu16, hu17, hu18, hu19, hu20, hu21, hu22, hu23, hu24, hu25, hu26, hu27, hu28, hu29]
              clear hu0 hu1 hu2 hu3 hu4 hu5 hu6 hu7 hu8 hu9 hu10 hu11 hu12 hu13 hu14 hu15 hu16 hu17 hu18 hu19 hu20 hu21 hu22 hu23 hu24 hu25 hu26 hu27 hu28 hu29
              have HEND : Hid (Below V10.heap.size V10 W) := bl_call HBk.out hC (Nat.le_refl _)
              clear hE eL hC
              go_wp2_with fail
              go_roundw
              case rel => exact ⟨k + 1, by omega, by go_num, HEND.out⟩
              case measure => simp [intOf]; omega
      · have hoi : (0 : Int) < nO := by omega
        go_wp2_with fail
        refine (HLACK.out V9 (Below.refl _ _)).mono ?_
        rintro e V10 ⟨rfl, c10⟩
        have H910 : Hid (Below V9.heap.size V9 V10) := c10
        clear c10
        have HLK : Hid (lb = true → 1 ≤ nO ∧ lackB (allL s l p) other = true) := fun h => ⟨ho, by rw [HLB.out]; exact h⟩
        have HLF : Hid (1 ≤ nO → lackB (allL s l p) other = true → lb = true) := fun _ h => by rw [← HLB.out]; exact h
        have HB10 : Hid (Below WW.heap.size WW V10) := bl_call HB9.out H910.out (Nat.le_refl _)
        have H510 : Hid (Below V5.heap.size V5 V10) := bl_call H59.out H910.out (Nat.le_refl _)
        have hl0 := HL0.out
        rcases hfl : fewestL (allL s l p) with _ | X2
        · rw [hfl] at hl0
          injection hl0 with g1 g2
          subst g2
          have hz := lacks_none7 HOE.out hfl
          have hr := HRE.out.symm.trans hz.1
          subst hr
          have hlf : lb = false := by
            cases hlb2 : lb with
            | false => rfl
            | true =>
              obtain ⟨q1, q2⟩ := HLK.out hlb2
              rw [hz.2 other HSE.out (by rw [HNO.out]; exact q1)] at q2
              cases q2
          subst hlf
          clear hz hfl
          go_wp2_with fail
          refine (awake7_any V10).mono ?_
          rintro e V99 ⟨rfl, c99⟩
          have b99 := bl_call hBW (bl_call HB10.out c99 (Nat.le_refl _)) (Nat.le_refl _)
          clear c99
          go_wp2
          go_ret
          exact ⟨by rfl, b99⟩
        rw [hfl] at hl0
        injection hl0 with g1 g2
        subst g1 g2
        obtain ⟨hr8, hx1, hset, hlx, hmin⟩ := lacks_some7 HOE.out hfl
        rw [HRE.out] at hr8
        subst hr8
        rw [HNX.out] at hx1 hmin
        have HSET := Lib.hid hset
        have HLX := Lib.hid hlx
        have HMIN : Hid (lb = true → nX ≤ nO) := fun h => by
          obtain ⟨q1, q2⟩ := HLK.out h
          have := hmin other HSE.out (by rw [HNO.out]; exact q1) q2
          rw [HNO.out] at this
          exact this
        clear hset hlx hmin hfl
        have hx1i : (0 : Int) < nX := by omega
        have hx1n : 0 < nX := by omega
        have hnx6 : nX ≤ 6 := by have := set_len HSET.out; rw [HNX.out, Hm.out] at this; omega
        go_wp2_with fail
        go_loopw [17] (fun i wr => ∃ k : Nat, k ≤ nX ∧ i = .int .i64 k ∧ Hid (Below V10.heap.size V10 wr)) (fun i _ => nX - (intOf i).toNat)
        case atStart => exact ⟨0, Nat.zero_le _, rfl, Below.refl _ _⟩
        case round =>
          obtain ⟨k, hk, rfl, HBk⟩ := hrel
          have H5k : Hid (Below V5.heap.size V5 wr) := bl_call H510.out HBk.out (Nat.le_refl _)
          have HBWk : Hid (Below WW.heap.size WW wr) := bl_call HB10.out HBk.out (Nat.le_refl _)
          by_cases hlt : k < nX
          rotate_left
          · obtain rfl : k = nX := by omega
            have hki : ¬ (k : Int) < k := by omega
            have HXI : Hid (∀ i ∈ X, 0 ≤ i ∧ i < (m : Int)) := fun i hi => by have := HSET.out.2 i hi; rw [Hm.out] at this; exact this
            go_wp2_with fail
            refine (rlack7_any wr (HF.out wr (bl_call H89.out (bl_call H910.out HBk.out (Nat.le_refl _)) (Nat.le_refl _))) (HD.out wr H5k.out) HXI.out (by omega) (all40 HOE.out)).mono ?_
            rintro e V12 ⟨rfl, c12⟩
            rw [HLX.out]
            have HB12 : Hid (Below WW.heap.size WW V12) := bl_call HBWk.out c12 (Nat.le_refl _)
            clear c12
            cases hlb3 : lb with
            | false =>
              subst hlb3
              go_wp2_with fail
              refine (awake7_any V12).mono ?_
              rintro e V99 ⟨rfl, c99⟩
              have b99 := bl_call hBW (bl_call HB12.out c99 (Nat.le_refl _)) (Nat.le_refl _)
              clear c99
              go_wp2
              go_ret
              exact ⟨by rfl, b99⟩
            | true =>
              have hmn := HMIN.out hlb3
              subst hlb3
              have hmni : (k : Int) ≤ nO := by omega
              go_wp2_with fail
              refine (awake7_any V12).mono ?_
              rintro e V99 ⟨rfl, c99⟩
              have b99 := bl_call hBW (bl_call HB12.out c99 (Nat.le_refl _)) (Nat.le_refl _)
              clear c99
              go_wp2
              go_ret
              exact ⟨by rfl, b99⟩
          have hki : (k : Int) < nX := by omega
          obtain ⟨bD, oD, x, hDe, hxc, Hx⟩ := Ints.get (HD.out wr H5k.out) hlt
          subst hDe
          have hxb := HSET.out.2 x (List.mem_of_getElem? Hx.out)
          rw [Hm.out] at hxb
          have hxn : ¬ x < 0 := by omega
          have hxnd : decide (x < 0) = false := decide_eq_false hxn
          have hxm : ¬ (m : Int) ≤ x := by omega
          have hxmd : decide ((m : Int) ≤ x) = false := decide_eq_false hxm
          have kx : Hid (∀ V, Below wr.heap.size wr V → V.cell? ⟨bD, oD + k, none⟩ = some (.int .i64 x)) := fun V hb => getc hb hxc
          clear hxc hxb
          rcases Nat.eq_zero_or_pos k with hk0 | hkp
          · subst hk0
            go_wp2_with fail
            refine wp_frameT ?_
            intro a0 ha0
            have tb4 : a0.tmps[4]? = some (.pointer (some ⟨w.heap.size + 1, 0, none⟩)) := by rw [ha0]; kernel_rfl
            have tb8 : a0.tmps[8]? = some (.slice (some ⟨bD, oD, none⟩) nX dc) := by rw [ha0]; kernel_rfl
            have tb17 : a0.tmps[17]? = some (.int .i64 ((0 : Nat) : Int)) := by rw [ha0]; kernel_rfl
            have hsz : a0.tmps.size = 168 := by rw [ha0]; kernel_rfl
            refine wp_region_list (fun W => Below wr.heap.size wr W) (fun w w' => Below w.heap.size w w')
              [isV (.slice (some ⟨bD, oD, none⟩) nX dc), isV (.int .i64 ((0 : Nat) : Int)), isV (.pointer (some ⟨bD, oD + 0, none⟩)), isV (.int .i64 x), isV (.bool false), isV (.bool false), isV (.slice (some ⟨bD, oD, none⟩) nX dc), isV (.int .i64 ((0 : Nat) : Int)), isV (.pointer (some ⟨bD, oD + 0, none⟩)), isV (.int .i64 x), isV (.pointer (some ⟨w.heap.size + 1, 2, none⟩)), isV (.slice O m od), isV (.int .i64 (m : Int)), isV (.bool false), isV (.bool false), isV (.bool false), isV (.int .i64 ((0 : Nat) : Int)), isV (.bool false), isV (.bool false), isV (undef), isV (undef), isV (undef), isV (undef), isV (undef), isV (undef), isV (undef), isV (undef), isV (undef), isV (undef), isV (.bool false), isV (.bool false)]
              (by kernel_rfl) (by kernel_rfl) (by kernel_rfl) (by simp) (by simp) (Below.refl _ _).drew ?stabAy ?stepAy ?finAy
            case stabAy => exact (StabL.is (StabL.is (StabL.is (StabL.is (StabL.is (StabL.is (StabL.is (StabL.is (StabL.is (StabL.is (StabL.is (StabL.is (StabL.is (StabL.is (StabL.is (StabL.is (StabL.is (StabL.is (StabL.is (StabL.is (StabL.is (StabL.is (StabL.is (StabL.is (StabL.is (StabL.is (StabL.is (StabL.is (StabL.is (StabL.is (StabL.is StabL.nil)))))))))))))))))))))))))))))))
            case stepAy =>
              refine StepsL.isA ?_ (StepsL.isA ?_ (StepsL.isA ?_ (StepsL.isA ?_ (StepsL.isA ?_ (StepsL.isA ?_ (StepsL.isA ?_ (StepsL.isA ?_ (StepsL.isA ?_ (StepsL.isA ?_ (StepsL.isA ?_ (StepsL.isA ?_ (StepsL.isA ?_ (StepsL.isA ?_ (StepsL.isA ?_ (StepsL.isA ?_ (StepsL.isA ?_ (StepsL.isA ?_ (StepsL.isA ?_ (StepsL.isA ?_ (StepsL.isA ?_ (StepsL.isA ?_ (StepsL.isA ?_ (StepsL.isA ?_ (StepsL.isA ?_ (StepsL.isA ?_ (StepsL.isA ?_ (StepsL.isA ?_ (StepsL.isA ?_ (StepsL.isA ?_ (StepsL.isA ?_ StepsL.nil))))))))))))))))))))))))))))))
              · -- 0
                intro vs a W K ha hC hD hU hK
                have r8 : a.tmps[8]? = some (.slice (some ⟨bD, oD, none⟩) nX dc) := by rw [ha, fillA_base0 (by kernel_rfl)]; exact tb8
                clear ha hU hD ha0
                rw [if_pos (by rfl)]
                go_simp
                exact hK _ hC (Below.refl _ _)
              · -- 1
                intro vs a W K ha hC hD hU hK
                have r17 : a.tmps[17]? = some (.int .i64 ((0 : Nat) : Int)) := by rw [ha, fillA_base0 (by kernel_rfl)]; exact tb17
                clear ha hU hD ha0
                rw [if_pos (by rfl)]
                go_simp
                exact hK _ hC (Below.refl _ _)
              · -- 2
                intro vs a W K ha hC hD hU hK
                have r111 : a.tmps[111]? = some (vs 0) := by rw [ha]; exact fillA_get0 (j := 0) (by kernel_rfl) (by rw [hsz]; decide)
                have q0 : vs 0 = .slice (some ⟨bD, oD, none⟩) nX dc := hD 0 (by simp [waits, Region.binds])
                rw [q0] at r111
                have r112 : a.tmps[112]? = some (vs 1) := by rw [ha]; exact fillA_get0 (j := 1) (by kernel_rfl) (by rw [hsz]; decide)
                have q1 : vs 1 = .int .i64 ((0 : Nat) : Int) := hD 1 (by simp [waits, Region.binds])
                rw [q1] at r112
                clear ha hU hD ha0
                rw [if_pos (by rfl)]
                go_simp
                exact hK _ hC (Below.refl _ _)
              · -- 3
                intro vs a W K ha hC hD hU hK
                have r113 : a.tmps[113]? = some (vs 2) := by rw [ha]; exact fillA_get0 (j := 2) (by kernel_rfl) (by rw [hsz]; decide)
                have q2 : vs 2 = .pointer (some ⟨bD, oD + 0, none⟩) := hD 2 (by simp [waits, Region.binds])
                rw [q2] at r113
                clear ha hU hD ha0
                rw [if_pos (by rfl)]
                obtain ⟨k1, k2, k3, k4, k5, k6⟩ := kk.out W (bl_call HBWk.out hC (Nat.le_refl _))
                have kxx : W.cell? ⟨bD, oD, none⟩ = some (.int .i64 x) := by simpa using kx.out W hC
                go_simp
                exact hK _ hC (Below.refl _ _)
              · -- 4
                intro vs a W K ha hC hD hU hK
                have r114 : a.tmps[114]? = some (vs 3) := by rw [ha]; exact fillA_get0 (j := 3) (by kernel_rfl) (by rw [hsz]; decide)
                have q3 : vs 3 = .int .i64 x := hD 3 (by simp [waits, Region.binds])
                rw [q3] at r114
                clear ha hU hD ha0
                rw [if_pos (by rfl)]
                go_simp
                exact hK _ hC (Below.refl _ _)
              · -- 5
                intro vs a W K ha hC hD hU hK
                have r115 : a.tmps[115]? = some (vs 4) := by rw [ha]; exact fillA_get0 (j := 4) (by kernel_rfl) (by rw [hsz]; decide)
                have q4 : vs 4 = .bool false := hD 4 (by simp [waits, Region.binds])
                rw [q4] at r115
                clear ha hU hD ha0
                rw [if_pos (by rfl)]
                go_simp
                exact hK _ hC (Below.refl _ _)
              · -- 6
                intro vs a W K ha hC hD hU hK
                have r116 : a.tmps[116]? = some (vs 5) := by rw [ha]; exact fillA_get0 (j := 5) (by kernel_rfl) (by rw [hsz]; decide)
                have q5 : vs 5 = .bool false := hD 5 (by simp [waits, Region.binds])
                rw [q5] at r116
                have r8 : a.tmps[8]? = some (.slice (some ⟨bD, oD, none⟩) nX dc) := by rw [ha, fillA_base0 (by kernel_rfl)]; exact tb8
                clear ha hU hD ha0
                rw [if_pos (by simp [Region.wanted, yielded, r116])]
                go_simp
                exact hK _ hC (Below.refl _ _)
              · -- 7
                intro vs a W K ha hC hD hU hK
                have r116 : a.tmps[116]? = some (vs 5) := by rw [ha]; exact fillA_get0 (j := 5) (by kernel_rfl) (by rw [hsz]; decide)
                have q5 : vs 5 = .bool false := hD 5 (by simp [waits, Region.binds])
                rw [q5] at r116
                have r17 : a.tmps[17]? = some (.int .i64 ((0 : Nat) : Int)) := by rw [ha, fillA_base0 (by kernel_rfl)]; exact tb17
                clear ha hU hD ha0
                rw [if_pos (by simp [Region.wanted, yielded, r116])]
                go_simp
                exact hK _ hC (Below.refl _ _)
              · -- 8
                intro vs a W K ha hC hD hU hK
                have r116 : a.tmps[116]? = some (vs 5) := by rw [ha]; exact fillA_get0 (j := 5) (by kernel_rfl) (by rw [hsz]; decide)
                have q5 : vs 5 = .bool false := hD 5 (by simp [waits, Region.binds])
                rw [q5] at r116
                have r117 : a.tmps[117]? = some (vs 6) := by rw [ha]; exact fillA_get0 (j := 6) (by kernel_rfl) (by rw [hsz]; decide)
                have q6 : vs 6 = .slice (some ⟨bD, oD, none⟩) nX dc := hD 6 (by simp [waits, Region.binds])
                rw [q6] at r117
                have r118 : a.tmps[118]? = some (vs 7) := by rw [ha]; exact fillA_get0 (j := 7) (by kernel_rfl) (by rw [hsz]; decide)
                have q7 : vs 7 = .int .i64 ((0 : Nat) : Int) := hD 7 (by simp [waits, Region.binds])
                rw [q7] at r118
                clear ha hU hD ha0
                rw [if_pos (by simp [Region.wanted, yielded, r116])]
                go_simp
                exact hK _ hC (Below.refl _ _)
              · -- 9
                intro vs a W K ha hC hD hU hK
                have r116 : a.tmps[116]? = some (vs 5) := by rw [ha]; exact fillA_get0 (j := 5) (by kernel_rfl) (by rw [hsz]; decide)
                have q5 : vs 5 = .bool false := hD 5 (by simp [waits, Region.binds])
                rw [q5] at r116
                have r119 : a.tmps[119]? = some (vs 8) := by rw [ha]; exact fillA_get0 (j := 8) (by kernel_rfl) (by rw [hsz]; decide)
                have q8 : vs 8 = .pointer (some ⟨bD, oD + 0, none⟩) := hD 8 (by simp [waits, Region.binds])
                rw [q8] at r119
                clear ha hU hD ha0
                rw [if_pos (by simp [Region.wanted, yielded, r116])]
                obtain ⟨k1, k2, k3, k4, k5, k6⟩ := kk.out W (bl_call HBWk.out hC (Nat.le_refl _))
                have kxx : W.cell? ⟨bD, oD, none⟩ = some (.int .i64 x) := by simpa using kx.out W hC
                go_simp
                exact hK _ hC (Below.refl _ _)
              · -- 10
                intro vs a W K ha hC hD hU hK
                have r116 : a.tmps[116]? = some (vs 5) := by rw [ha]; exact fillA_get0 (j := 5) (by kernel_rfl) (by rw [hsz]; decide)
                have q5 : vs 5 = .bool false := hD 5 (by simp [waits, Region.binds])
                rw [q5] at r116
                have r4 : a.tmps[4]? = some (.pointer (some ⟨w.heap.size + 1, 0, none⟩)) := by rw [ha, fillA_base0 (by kernel_rfl)]; exact tb4
                clear ha hU hD ha0
                rw [if_pos (by simp [Region.wanted, yielded, r116])]
                go_simp
                exact hK _ hC (Below.refl _ _)
              · -- 11
                intro vs a W K ha hC hD hU hK
                have r116 : a.tmps[116]? = some (vs 5) := by rw [ha]; exact fillA_get0 (j := 5) (by kernel_rfl) (by rw [hsz]; decide)
                have q5 : vs 5 = .bool false := hD 5 (by simp [waits, Region.binds])
                rw [q5] at r116
                have r121 : a.tmps[121]? = some (vs 10) := by rw [ha]; exact fillA_get0 (j := 10) (by kernel_rfl) (by rw [hsz]; decide)
                have q10 : vs 10 = .pointer (some ⟨w.heap.size + 1, 2, none⟩) := hD 10 (by simp [waits, Region.binds])
                rw [q10] at r121
                clear ha hU hD ha0
                rw [if_pos (by simp [Region.wanted, yielded, r116])]
                obtain ⟨k1, k2, k3, k4, k5, k6⟩ := kk.out W (bl_call HBWk.out hC (Nat.le_refl _))
                have kxx : W.cell? ⟨bD, oD, none⟩ = some (.int .i64 x) := by simpa using kx.out W hC
                go_simp
                exact hK _ hC (Below.refl _ _)
              · -- 12
                intro vs a W K ha hC hD hU hK
                have r116 : a.tmps[116]? = some (vs 5) := by rw [ha]; exact fillA_get0 (j := 5) (by kernel_rfl) (by rw [hsz]; decide)
                have q5 : vs 5 = .bool false := hD 5 (by simp [waits, Region.binds])
                rw [q5] at r116
                have r122 : a.tmps[122]? = some (vs 11) := by rw [ha]; exact fillA_get0 (j := 11) (by kernel_rfl) (by rw [hsz]; decide)
                have q11 : vs 11 = .slice O m od := hD 11 (by simp [waits, Region.binds])
                rw [q11] at r122
                clear ha hU hD ha0
                rw [if_pos (by simp [Region.wanted, yielded, r116])]
                go_simp
                exact hK _ hC (Below.refl _ _)
              · -- 13
                intro vs a W K ha hC hD hU hK
                have r116 : a.tmps[116]? = some (vs 5) := by rw [ha]; exact fillA_get0 (j := 5) (by kernel_rfl) (by rw [hsz]; decide)
                have q5 : vs 5 = .bool false := hD 5 (by simp [waits, Region.binds])
                rw [q5] at r116
                have r120 : a.tmps[120]? = some (vs 9) := by rw [ha]; exact fillA_get0 (j := 9) (by kernel_rfl) (by rw [hsz]; decide)
                have q9 : vs 9 = .int .i64 x := hD 9 (by simp [waits, Region.binds])
                rw [q9] at r120
                have r123 : a.tmps[123]? = some (vs 12) := by rw [ha]; exact fillA_get0 (j := 12) (by kernel_rfl) (by rw [hsz]; decide)
                have q12 : vs 12 = .int .i64 (m : Int) := hD 12 (by simp [waits, Region.binds])
                rw [q12] at r123
                clear ha hU hD ha0
                rw [if_pos (by simp [Region.wanted, yielded, r116])]
                go_simp
                exact hK _ hC (Below.refl _ _)
              · -- 14
                intro vs a W K ha hC hD hU hK
                have r116 : a.tmps[116]? = some (vs 5) := by rw [ha]; exact fillA_get0 (j := 5) (by kernel_rfl) (by rw [hsz]; decide)
                have q5 : vs 5 = .bool false := hD 5 (by simp [waits, Region.binds])
                rw [q5] at r116
                have r124 : a.tmps[124]? = some (vs 13) := by rw [ha]; exact fillA_get0 (j := 13) (by kernel_rfl) (by rw [hsz]; decide)
                have q13 : vs 13 = .bool false := hD 13 (by simp [waits, Region.binds])
                rw [q13] at r124
                clear ha hU hD ha0
                rw [if_pos (by rfl)]
                go_simp
                exact hK _ hC (Below.refl _ _)
              · -- 15
                intro vs a W K ha hC hD hU hK
                have r125 : a.tmps[125]? = some (vs 14) := by rw [ha]; exact fillA_get0 (j := 14) (by kernel_rfl) (by rw [hsz]; decide)
                have q14 : vs 14 = .bool false := hD 14 (by simp [waits, Region.binds])
                rw [q14] at r125
                clear ha hU hD ha0
                rw [if_pos (by rfl)]
                go_simp
                exact hK _ hC (Below.refl _ _)
              · -- 16
                intro vs a W K ha hC hD hU hK
                have r126 : a.tmps[126]? = some (vs 15) := by rw [ha]; exact fillA_get0 (j := 15) (by kernel_rfl) (by rw [hsz]; decide)
                have q15 : vs 15 = .bool false := hD 15 (by simp [waits, Region.binds])
                rw [q15] at r126
                have r17 : a.tmps[17]? = some (.int .i64 ((0 : Nat) : Int)) := by rw [ha, fillA_base0 (by kernel_rfl)]; exact tb17
                clear ha hU hD ha0
                rw [if_pos (by simp [Region.wanted, yielded, r126])]
                go_simp
                exact hK _ hC (Below.refl _ _)
              · -- 17
                intro vs a W K ha hC hD hU hK
                have r126 : a.tmps[126]? = some (vs 15) := by rw [ha]; exact fillA_get0 (j := 15) (by kernel_rfl) (by rw [hsz]; decide)
                have q15 : vs 15 = .bool false := hD 15 (by simp [waits, Region.binds])
                rw [q15] at r126
                have r127 : a.tmps[127]? = some (vs 16) := by rw [ha]; exact fillA_get0 (j := 16) (by kernel_rfl) (by rw [hsz]; decide)
                have q16 : vs 16 = .int .i64 ((0 : Nat) : Int) := hD 16 (by simp [waits, Region.binds])
                rw [q16] at r127
                clear ha hU hD ha0
                rw [if_pos (by simp [Region.wanted, yielded, r126])]
                go_simp
                exact hK _ hC (Below.refl _ _)
              · -- 18
                intro vs a W K ha hC hD hU hK
                have r126 : a.tmps[126]? = some (vs 15) := by rw [ha]; exact fillA_get0 (j := 15) (by kernel_rfl) (by rw [hsz]; decide)
                have q15 : vs 15 = .bool false := hD 15 (by simp [waits, Region.binds])
                rw [q15] at r126
                have r128 : a.tmps[128]? = some (vs 17) := by rw [ha]; exact fillA_get0 (j := 17) (by kernel_rfl) (by rw [hsz]; decide)
                have q17 : vs 17 = .bool false := hD 17 (by simp [waits, Region.binds])
                rw [q17] at r128
                clear ha hU hD ha0
                rw [if_pos (by simp [Region.wanted, yielded, r126])]
                go_simp
                exact hK _ hC (Below.refl _ _)
              · -- 19
                intro vs a W K ha hC hD hU hK
                have r129 : a.tmps[129]? = some (vs 18) := by rw [ha]; exact fillA_get0 (j := 18) (by kernel_rfl) (by rw [hsz]; decide)
                have q18 : vs 18 = .bool false := hD 18 (by simp [waits, Region.binds])
                rw [q18] at r129
                clear ha hU hD ha0
                rw [if_neg (by simp [Region.wanted, yielded, r129, undef])]
              · -- 20
                intro vs a W K ha hC hD hU hK
                have r129 : a.tmps[129]? = some (vs 18) := by rw [ha]; exact fillA_get0 (j := 18) (by kernel_rfl) (by rw [hsz]; decide)
                have q18 : vs 18 = .bool false := hD 18 (by simp [waits, Region.binds])
                rw [q18] at r129
                clear ha hU hD ha0
                rw [if_neg (by simp [Region.wanted, yielded, r129, undef])]
              · -- 21
                intro vs a W K ha hC hD hU hK
                have r129 : a.tmps[129]? = some (vs 18) := by rw [ha]; exact fillA_get0 (j := 18) (by kernel_rfl) (by rw [hsz]; decide)
                have q18 : vs 18 = .bool false := hD 18 (by simp [waits, Region.binds])
                rw [q18] at r129
                clear ha hU hD ha0
                rw [if_neg (by simp [Region.wanted, yielded, r129, undef])]
              · -- 22
                intro vs a W K ha hC hD hU hK
                have r129 : a.tmps[129]? = some (vs 18) := by rw [ha]; exact fillA_get0 (j := 18) (by kernel_rfl) (by rw [hsz]; decide)
                have q18 : vs 18 = .bool false := hD 18 (by simp [waits, Region.binds])
                rw [q18] at r129
                clear ha hU hD ha0
                rw [if_neg (by simp [Region.wanted, yielded, r129, undef])]
              · -- 23
                intro vs a W K ha hC hD hU hK
                have r129 : a.tmps[129]? = some (vs 18) := by rw [ha]; exact fillA_get0 (j := 18) (by kernel_rfl) (by rw [hsz]; decide)
                have q18 : vs 18 = .bool false := hD 18 (by simp [waits, Region.binds])
                rw [q18] at r129
                clear ha hU hD ha0
                rw [if_neg (by simp [Region.wanted, yielded, r129, undef])]
              · -- 24
                intro vs a W K ha hC hD hU hK
                have r129 : a.tmps[129]? = some (vs 18) := by rw [ha]; exact fillA_get0 (j := 18) (by kernel_rfl) (by rw [hsz]; decide)
                have q18 : vs 18 = .bool false := hD 18 (by simp [waits, Region.binds])
                rw [q18] at r129
                clear ha hU hD ha0
                rw [if_neg (by simp [Region.wanted, yielded, r129, undef])]
              · -- 25
                intro vs a W K ha hC hD hU hK
                have r129 : a.tmps[129]? = some (vs 18) := by rw [ha]; exact fillA_get0 (j := 18) (by kernel_rfl) (by rw [hsz]; decide)
                have q18 : vs 18 = .bool false := hD 18 (by simp [waits, Region.binds])
                rw [q18] at r129
                clear ha hU hD ha0
                rw [if_neg (by simp [Region.wanted, yielded, r129, undef])]
              · -- 26
                intro vs a W K ha hC hD hU hK
                have r129 : a.tmps[129]? = some (vs 18) := by rw [ha]; exact fillA_get0 (j := 18) (by kernel_rfl) (by rw [hsz]; decide)
                have q18 : vs 18 = .bool false := hD 18 (by simp [waits, Region.binds])
                rw [q18] at r129
                clear ha hU hD ha0
                rw [if_neg (by simp [Region.wanted, yielded, r129, undef])]
              · -- 27
                intro vs a W K ha hC hD hU hK
                have r129 : a.tmps[129]? = some (vs 18) := by rw [ha]; exact fillA_get0 (j := 18) (by kernel_rfl) (by rw [hsz]; decide)
                have q18 : vs 18 = .bool false := hD 18 (by simp [waits, Region.binds])
                rw [q18] at r129
                clear ha hU hD ha0
                rw [if_neg (by simp [Region.wanted, yielded, r129, undef])]
              · -- 28
                intro vs a W K ha hC hD hU hK
                have r129 : a.tmps[129]? = some (vs 18) := by rw [ha]; exact fillA_get0 (j := 18) (by kernel_rfl) (by rw [hsz]; decide)
                have q18 : vs 18 = .bool false := hD 18 (by simp [waits, Region.binds])
                rw [q18] at r129
                clear ha hU hD ha0
                rw [if_neg (by simp [Region.wanted, yielded, r129, undef])]
              · -- 29
                intro vs a W K ha hC hD hU hK
                have r126 : a.tmps[126]? = some (vs 15) := by rw [ha]; exact fillA_get0 (j := 15) (by kernel_rfl) (by rw [hsz]; decide)
                have q15 : vs 15 = .bool false := hD 15 (by simp [waits, Region.binds])
                rw [q15] at r126
                have r129 : a.tmps[129]? = some (vs 18) := by rw [ha]; exact fillA_get0 (j := 18) (by kernel_rfl) (by rw [hsz]; decide)
                have q18 : vs 18 = .bool false := hD 18 (by simp [waits, Region.binds])
                rw [q18] at r129
                have r139 : a.tmps[139]? = some (vs 28) := by rw [ha]; exact fillA_get0 (j := 28) (by kernel_rfl) (by rw [hsz]; decide)
                have q28 : vs 28 = undef := hD 28 (by simp [waits, Region.binds])
                rw [q28] at r139
                clear ha hU hD ha0
                rw [if_pos (by simp [Region.wanted, yielded, r126])]
                go_simp
                exact hK _ hC (Below.refl _ _)
              · -- 30
                intro vs a W K ha hC hD hU hK
                have r126 : a.tmps[126]? = some (vs 15) := by rw [ha]; exact fillA_get0 (j := 15) (by kernel_rfl) (by rw [hsz]; decide)
                have q15 : vs 15 = .bool false := hD 15 (by simp [waits, Region.binds])
                rw [q15] at r126
                have r140 : a.tmps[140]? = some (vs 29) := by rw [ha]; exact fillA_get0 (j := 29) (by kernel_rfl) (by rw [hsz]; decide)
                have q29 : vs 29 = .bool false := hD 29 (by simp [waits, Region.binds])
                rw [q29] at r140
                clear ha hU hD ha0
                rw [if_pos (by rfl)]
                go_simp
                exact hK _ hC (Below.refl _ _)
            case finAy =>
              refine Fin1.none (Nat.le_refl _) ?_
              intro vs W a1 hC hE ha
              have eL : vs 30 = .bool false := hE 30 (by simp)
              rw [ha, ha0]
              clear ha ha0 hsz tb4 tb8 tb17
              simp only [fillA, Act.put, List.setIfInBounds_toArray, List.set_cons_zero, List.set_cons_succ, Nat.zero_add, Nat.reduceAdd, eL]
              obtain ⟨u0, hu0⟩ : ∃ v0, vs 0 = v0 := ⟨_, rfl⟩
              obtain ⟨u1, hu1⟩ : ∃ v0, vs 1 = v0 := ⟨_, rfl⟩
              obtain ⟨u2, hu2⟩ : ∃ v0, vs 2 = v0 := ⟨_, rfl⟩
              obtain ⟨u3, hu3⟩ : ∃ v0, vs 3 = v0 := ⟨_, rfl⟩
              obtain ⟨u4, hu4⟩ : ∃ v0, vs 4 = v0 := ⟨_, rfl⟩
              obtain ⟨u5, hu5⟩ : ∃ v0, vs 5 = v0 := ⟨_, rfl⟩
              obtain ⟨u6, hu6⟩ : ∃ v0, vs 6 = v0 := ⟨_, rfl⟩
              obtain ⟨u7, hu7⟩ : ∃ v0, vs 7 = v0 := ⟨_, rfl⟩
              obtain ⟨u8, hu8⟩ : ∃ v0, vs 8 = v0 := ⟨_, rfl⟩
              obtain ⟨u9, hu9⟩ : ∃ v0, vs 9 = v0 := ⟨_, rfl⟩
              obtain ⟨u10, hu10⟩ : ∃ v0, vs 10 = v0 := ⟨_, rfl⟩
              obtain ⟨u11, hu11⟩ : ∃ v0, vs 11 = v0 := ⟨_, rfl⟩
              obtain ⟨u12, hu12⟩ : ∃ v0, vs 12 = v0 := ⟨_, rfl⟩
              obtain ⟨u13, hu13⟩ : ∃ v0, vs 13 = v0 := ⟨_, rfl⟩
              obtain ⟨u14, hu14⟩ : ∃ v0, vs 14 = v0 := ⟨_, rfl⟩
              obtain ⟨u15, hu15⟩ : ∃ v0, vs 15 = v0 := ⟨_, rfl⟩
              obtain ⟨u16, hu16⟩ : ∃ v0, vs 16 = v0 := ⟨_, rfl⟩
              obtain ⟨u17, hu17⟩ : ∃ v0, vs 17 = v0 := ⟨_, rfl⟩
              obtain ⟨u18, hu18⟩ : ∃ v0, vs 18 = v0 := ⟨_, rfl⟩
              obtain ⟨u19, hu19⟩ : ∃ v0, vs 19 = v0 := ⟨_, rfl⟩
              obtain ⟨u20, hu20⟩ : ∃ v0, vs 20 = v0 := ⟨_, rfl⟩
              obtain ⟨u21, hu21⟩ : ∃ v0, vs 21 = v0 := ⟨_, rfl⟩
              obtain ⟨u22, hu22⟩ : ∃ v0, vs 22 = v0 := ⟨_, rfl⟩
              obtain ⟨u23, hu23⟩ : ∃ v0, vs 23 = v0 := ⟨_, rfl⟩
              obtain ⟨u24, hu24⟩ : ∃ v0, vs 24 = v0 := ⟨_, rfl⟩
              obtain ⟨u25, hu25⟩ : ∃ v0, vs 25 = v0 := ⟨_, rfl⟩
              obtain ⟨u26, hu26⟩ : ∃ v0, vs 26 = v0 := ⟨_, rfl⟩
              obtain ⟨u27, hu27⟩ : ∃ v0, vs 27 = v0 := ⟨_, rfl⟩
              obtain ⟨u28, hu28⟩ : ∃ v0, vs 28 = v0 := ⟨_, rfl⟩
              obtain ⟨u29, hu29⟩ : ∃ v0, vs 29 = v0 := ⟨_, rfl⟩
              rw [hu0, hu1, hu2, hu3, hu4, hu5, hu6, hu7, hu8, hu9, hu10, hu11, hu12, hu13, hu14, hu15, hu16, hu17, hu18, hu19, hu20, hu21, hu22, hu23, hu24, hu25, hu26, hu27, hu28, hu29]
              clear hu0 hu1 hu2 hu3 hu4 hu5 hu6 hu7 hu8 hu9 hu10 hu11 hu12 hu13 hu14 hu15 hu16 hu17 hu18 hu19 hu20 hu21 hu22 hu23 hu24 hu25 hu26 hu27 hu28 hu29
              have HEND : Hid (Below V10.heap.size V10 W) := bl_call HBk.out hC (Nat.le_refl _)
              clear hE eL hC
              go_wp2_with fail
              go_roundw
              case rel => exact ⟨0 + 1, by omega, by go_num, HEND.out⟩
              case measure => simp [intOf]; omega
          · obtain ⟨k1x, hk1⟩ : ∃ j1, k = j1 + 1 := ⟨k - 1, by omega⟩
            obtain ⟨b3, o3, x1, hEe3, hx1c, Hx1⟩ := Ints.get (HD.out wr H5k.out) (show k1x < nX by omega)
            injection hEe3 with hEe3
            injection hEe3 with f1 f2
            subst f1 f2
            have hxx := set_asc7 HSET.out Hx1.out (by rw [← hk1]; exact Hx.out)
            have hle3 : ¬ x ≤ x1 := by omega
            have hle3d : decide (x ≤ x1) = false := decide_eq_false hle3
            have kx1 : Hid (∀ V, Below wr.heap.size wr V → V.cell? ⟨bD, oD + k1x, none⟩ = some (.int .i64 x1)) := fun V hb => getc hb hx1c
            have hwk : IntKind.i64.wrap ((k : Int) - 1) = (k1x : Int) := by rw [IntKind.wrap_i64]; omega
            have hk1n : k1x < nX := by omega
            have hk1i : (k1x : Int) < nX := by omega
            have hkpi : (0 : Int) < (k : Int) := by omega
            clear hk1 hx1c hxx
            go_wp2_with fail
            refine wp_frameT ?_
            intro a0 ha0
            have tb4 : a0.tmps[4]? = some (.pointer (some ⟨w.heap.size + 1, 0, none⟩)) := by rw [ha0]; kernel_rfl
            have tb8 : a0.tmps[8]? = some (.slice (some ⟨bD, oD, none⟩) nX dc) := by rw [ha0]; kernel_rfl
            have tb17 : a0.tmps[17]? = some (.int .i64 (k : Int)) := by rw [ha0]; kernel_rfl
            have hsz : a0.tmps.size = 168 := by rw [ha0]; kernel_rfl
            refine wp_region_list (fun W => Below wr.heap.size wr W) (fun w w' => Below w.heap.size w w')
              [isV (.slice (some ⟨bD, oD, none⟩) nX dc), isV (.int .i64 (k : Int)), isV (.pointer (some ⟨bD, oD + k, none⟩)), isV (.int .i64 x), isV (.bool false), isV (.bool false), isV (.slice (some ⟨bD, oD, none⟩) nX dc), isV (.int .i64 (k : Int)), isV (.pointer (some ⟨bD, oD + k, none⟩)), isV (.int .i64 x), isV (.pointer (some ⟨w.heap.size + 1, 2, none⟩)), isV (.slice O m od), isV (.int .i64 (m : Int)), isV (.bool false), isV (.bool false), isV (.bool false), isV (.int .i64 (k : Int)), isV (.bool true), isV (.bool true), isV (.slice (some ⟨bD, oD, none⟩) nX dc), isV (.int .i64 (k : Int)), isV (.pointer (some ⟨bD, oD + k, none⟩)), isV (.int .i64 x), isV (.slice (some ⟨bD, oD, none⟩) nX dc), isV (.int .i64 (k : Int)), isV (.int .i64 (k1x : Int)), isV (.pointer (some ⟨bD, oD + k1x, none⟩)), isV (.int .i64 x1), isV (.bool false), isV (.bool false), isV (.bool false)]
              (by kernel_rfl) (by kernel_rfl) (by kernel_rfl) (by simp) (by simp) (Below.refl _ _).drew ?stabBy ?stepBy ?finBy
            case stabBy => exact (StabL.is (StabL.is (StabL.is (StabL.is (StabL.is (StabL.is (StabL.is (StabL.is (StabL.is (StabL.is (StabL.is (StabL.is (StabL.is (StabL.is (StabL.is (StabL.is (StabL.is (StabL.is (StabL.is (StabL.is (StabL.is (StabL.is (StabL.is (StabL.is (StabL.is (StabL.is (StabL.is (StabL.is (StabL.is (StabL.is (StabL.is StabL.nil)))))))))))))))))))))))))))))))
            case stepBy =>
              refine StepsL.isA ?_ (StepsL.isA ?_ (StepsL.isA ?_ (StepsL.isA ?_ (StepsL.isA ?_ (StepsL.isA ?_ (StepsL.isA ?_ (StepsL.isA ?_ (StepsL.isA ?_ (StepsL.isA ?_ (StepsL.isA ?_ (StepsL.isA ?_ (StepsL.isA ?_ (StepsL.isA ?_ (StepsL.isA ?_ (StepsL.isA ?_ (StepsL.isA ?_ (StepsL.isA ?_ (StepsL.isA ?_ (StepsL.isA ?_ (StepsL.isA ?_ (StepsL.isA ?_ (StepsL.isA ?_ (StepsL.isA ?_ (StepsL.isA ?_ (StepsL.isA ?_ (StepsL.isA ?_ (StepsL.isA ?_ (StepsL.isA ?_ (StepsL.isA ?_ (StepsL.isA ?_ StepsL.nil))))))))))))))))))))))))))))))
              · -- 0
                intro vs a W K ha hC hD hU hK
                have r8 : a.tmps[8]? = some (.slice (some ⟨bD, oD, none⟩) nX dc) := by rw [ha, fillA_base0 (by kernel_rfl)]; exact tb8
                clear ha hU hD ha0
                rw [if_pos (by rfl)]
                go_simp
                exact hK _ hC (Below.refl _ _)
              · -- 1
                intro vs a W K ha hC hD hU hK
                have r17 : a.tmps[17]? = some (.int .i64 (k : Int)) := by rw [ha, fillA_base0 (by kernel_rfl)]; exact tb17
                clear ha hU hD ha0
                rw [if_pos (by rfl)]
                go_simp
                exact hK _ hC (Below.refl _ _)
              · -- 2
                intro vs a W K ha hC hD hU hK
                have r111 : a.tmps[111]? = some (vs 0) := by rw [ha]; exact fillA_get0 (j := 0) (by kernel_rfl) (by rw [hsz]; decide)
                have q0 : vs 0 = .slice (some ⟨bD, oD, none⟩) nX dc := hD 0 (by simp [waits, Region.binds])
                rw [q0] at r111
                have r112 : a.tmps[112]? = some (vs 1) := by rw [ha]; exact fillA_get0 (j := 1) (by kernel_rfl) (by rw [hsz]; decide)
                have q1 : vs 1 = .int .i64 (k : Int) := hD 1 (by simp [waits, Region.binds])
                rw [q1] at r112
                clear ha hU hD ha0
                rw [if_pos (by rfl)]
                go_simp
                exact hK _ hC (Below.refl _ _)
              · -- 3
                intro vs a W K ha hC hD hU hK
                have r113 : a.tmps[113]? = some (vs 2) := by rw [ha]; exact fillA_get0 (j := 2) (by kernel_rfl) (by rw [hsz]; decide)
                have q2 : vs 2 = .pointer (some ⟨bD, oD + k, none⟩) := hD 2 (by simp [waits, Region.binds])
                rw [q2] at r113
                clear ha hU hD ha0
                rw [if_pos (by rfl)]
                obtain ⟨k1, k2, k3, k4, k5, k6⟩ := kk.out W (bl_call HBWk.out hC (Nat.le_refl _))
                have kxx := kx.out W hC
                have kxy := kx1.out W hC
                go_simp
                exact hK _ hC (Below.refl _ _)
              · -- 4
                intro vs a W K ha hC hD hU hK
                have r114 : a.tmps[114]? = some (vs 3) := by rw [ha]; exact fillA_get0 (j := 3) (by kernel_rfl) (by rw [hsz]; decide)
                have q3 : vs 3 = .int .i64 x := hD 3 (by simp [waits, Region.binds])
                rw [q3] at r114
                clear ha hU hD ha0
                rw [if_pos (by rfl)]
                go_simp
                exact hK _ hC (Below.refl _ _)
              · -- 5
                intro vs a W K ha hC hD hU hK
                have r115 : a.tmps[115]? = some (vs 4) := by rw [ha]; exact fillA_get0 (j := 4) (by kernel_rfl) (by rw [hsz]; decide)
                have q4 : vs 4 = .bool false := hD 4 (by simp [waits, Region.binds])
                rw [q4] at r115
                clear ha hU hD ha0
                rw [if_pos (by rfl)]
                go_simp
                exact hK _ hC (Below.refl _ _)
              · -- 6
                intro vs a W K ha hC hD hU hK
                have r116 : a.tmps[116]? = some (vs 5) := by rw [ha]; exact fillA_get0 (j := 5) (by kernel_rfl) (by rw [hsz]; decide)
                have q5 : vs 5 = .bool false := hD 5 (by simp [waits, Region.binds])
                rw [q5] at r116
                have r8 : a.tmps[8]? = some (.slice (some ⟨bD, oD, none⟩) nX dc) := by rw [ha, fillA_base0 (by kernel_rfl)]; exact tb8
                clear ha hU hD ha0
                rw [if_pos (by simp [Region.wanted, yielded, r116])]
                go_simp
                exact hK _ hC (Below.refl _ _)
              · -- 7
                intro vs a W K ha hC hD hU hK
                have r116 : a.tmps[116]? = some (vs 5) := by rw [ha]; exact fillA_get0 (j := 5) (by kernel_rfl) (by rw [hsz]; decide)
                have q5 : vs 5 = .bool false := hD 5 (by simp [waits, Region.binds])
                rw [q5] at r116
                have r17 : a.tmps[17]? = some (.int .i64 (k : Int)) := by rw [ha, fillA_base0 (by kernel_rfl)]; exact tb17
                clear ha hU hD ha0
                rw [if_pos (by simp [Region.wanted, yielded, r116])]
                go_simp
                exact hK _ hC (Below.refl _ _)
              · -- 8
                intro vs a W K ha hC hD hU hK
                have r116 : a.tmps[116]? = some (vs 5) := by rw [ha]; exact fillA_get0 (j := 5) (by kernel_rfl) (by rw [hsz]; decide)
                have q5 : vs 5 = .bool false := hD 5 (by simp [waits, Region.binds])
                rw [q5] at r116
                have r117 : a.tmps[117]? = some (vs 6) := by rw [ha]; exact fillA_get0 (j := 6) (by kernel_rfl) (by rw [hsz]; decide)
                have q6 : vs 6 = .slice (some ⟨bD, oD, none⟩) nX dc := hD 6 (by simp [waits, Region.binds])
                rw [q6] at r117
                have r118 : a.tmps[118]? = some (vs 7) := by rw [ha]; exact fillA_get0 (j := 7) (by kernel_rfl) (by rw [hsz]; decide)
                have q7 : vs 7 = .int .i64 (k : Int) := hD 7 (by simp [waits, Region.binds])
                rw [q7] at r118
                clear ha hU hD ha0
                rw [if_pos (by simp [Region.wanted, yielded, r116])]
                go_simp
                exact hK _ hC (Below.refl _ _)
              · -- 9
                intro vs a W K ha hC hD hU hK
                have r116 : a.tmps[116]? = some (vs 5) := by rw [ha]; exact fillA_get0 (j := 5) (by kernel_rfl) (by rw [hsz]; decide)
                have q5 : vs 5 = .bool false := hD 5 (by simp [waits, Region.binds])
                rw [q5] at r116
                have r119 : a.tmps[119]? = some (vs 8) := by rw [ha]; exact fillA_get0 (j := 8) (by kernel_rfl) (by rw [hsz]; decide)
                have q8 : vs 8 = .pointer (some ⟨bD, oD + k, none⟩) := hD 8 (by simp [waits, Region.binds])
                rw [q8] at r119
                clear ha hU hD ha0
                rw [if_pos (by simp [Region.wanted, yielded, r116])]
                obtain ⟨k1, k2, k3, k4, k5, k6⟩ := kk.out W (bl_call HBWk.out hC (Nat.le_refl _))
                have kxx := kx.out W hC
                have kxy := kx1.out W hC
                go_simp
                exact hK _ hC (Below.refl _ _)
              · -- 10
                intro vs a W K ha hC hD hU hK
                have r116 : a.tmps[116]? = some (vs 5) := by rw [ha]; exact fillA_get0 (j := 5) (by kernel_rfl) (by rw [hsz]; decide)
                have q5 : vs 5 = .bool false := hD 5 (by simp [waits, Region.binds])
                rw [q5] at r116
                have r4 : a.tmps[4]? = some (.pointer (some ⟨w.heap.size + 1, 0, none⟩)) := by rw [ha, fillA_base0 (by kernel_rfl)]; exact tb4
                clear ha hU hD ha0
                rw [if_pos (by simp [Region.wanted, yielded, r116])]
                go_simp
                exact hK _ hC (Below.refl _ _)
              · -- 11
                intro vs a W K ha hC hD hU hK
                have r116 : a.tmps[116]? = some (vs 5) := by rw [ha]; exact fillA_get0 (j := 5) (by kernel_rfl) (by rw [hsz]; decide)
                have q5 : vs 5 = .bool false := hD 5 (by simp [waits, Region.binds])
                rw [q5] at r116
                have r121 : a.tmps[121]? = some (vs 10) := by rw [ha]; exact fillA_get0 (j := 10) (by kernel_rfl) (by rw [hsz]; decide)
                have q10 : vs 10 = .pointer (some ⟨w.heap.size + 1, 2, none⟩) := hD 10 (by simp [waits, Region.binds])
                rw [q10] at r121
                clear ha hU hD ha0
                rw [if_pos (by simp [Region.wanted, yielded, r116])]
                obtain ⟨k1, k2, k3, k4, k5, k6⟩ := kk.out W (bl_call HBWk.out hC (Nat.le_refl _))
                have kxx := kx.out W hC
                have kxy := kx1.out W hC
                go_simp
                exact hK _ hC (Below.refl _ _)
              · -- 12
                intro vs a W K ha hC hD hU hK
                have r116 : a.tmps[116]? = some (vs 5) := by rw [ha]; exact fillA_get0 (j := 5) (by kernel_rfl) (by rw [hsz]; decide)
                have q5 : vs 5 = .bool false := hD 5 (by simp [waits, Region.binds])
                rw [q5] at r116
                have r122 : a.tmps[122]? = some (vs 11) := by rw [ha]; exact fillA_get0 (j := 11) (by kernel_rfl) (by rw [hsz]; decide)
                have q11 : vs 11 = .slice O m od := hD 11 (by simp [waits, Region.binds])
                rw [q11] at r122
                clear ha hU hD ha0
                rw [if_pos (by simp [Region.wanted, yielded, r116])]
                go_simp
                exact hK _ hC (Below.refl _ _)
              · -- 13
                intro vs a W K ha hC hD hU hK
                have r116 : a.tmps[116]? = some (vs 5) := by rw [ha]; exact fillA_get0 (j := 5) (by kernel_rfl) (by rw [hsz]; decide)
                have q5 : vs 5 = .bool false := hD 5 (by simp [waits, Region.binds])
                rw [q5] at r116
                have r120 : a.tmps[120]? = some (vs 9) := by rw [ha]; exact fillA_get0 (j := 9) (by kernel_rfl) (by rw [hsz]; decide)
                have q9 : vs 9 = .int .i64 x := hD 9 (by simp [waits, Region.binds])
                rw [q9] at r120
                have r123 : a.tmps[123]? = some (vs 12) := by rw [ha]; exact fillA_get0 (j := 12) (by kernel_rfl) (by rw [hsz]; decide)
                have q12 : vs 12 = .int .i64 (m : Int) := hD 12 (by simp [waits, Region.binds])
                rw [q12] at r123
                clear ha hU hD ha0
                rw [if_pos (by simp [Region.wanted, yielded, r116])]
                go_simp
                exact hK _ hC (Below.refl _ _)
              · -- 14
                intro vs a W K ha hC hD hU hK
                have r116 : a.tmps[116]? = some (vs 5) := by rw [ha]; exact fillA_get0 (j := 5) (by kernel_rfl) (by rw [hsz]; decide)
                have q5 : vs 5 = .bool false := hD 5 (by simp [waits, Region.binds])
                rw [q5] at r116
                have r124 : a.tmps[124]? = some (vs 13) := by rw [ha]; exact fillA_get0 (j := 13) (by kernel_rfl) (by rw [hsz]; decide)
                have q13 : vs 13 = .bool false := hD 13 (by simp [waits, Region.binds])
                rw [q13] at r124
                clear ha hU hD ha0
                rw [if_pos (by rfl)]
                go_simp
                exact hK _ hC (Below.refl _ _)
              · -- 15
                intro vs a W K ha hC hD hU hK
                have r125 : a.tmps[125]? = some (vs 14) := by rw [ha]; exact fillA_get0 (j := 14) (by kernel_rfl) (by rw [hsz]; decide)
                have q14 : vs 14 = .bool false := hD 14 (by simp [waits, Region.binds])
                rw [q14] at r125
                clear ha hU hD ha0
                rw [if_pos (by rfl)]
                go_simp
                exact hK _ hC (Below.refl _ _)
              · -- 16
                intro vs a W K ha hC hD hU hK
                have r126 : a.tmps[126]? = some (vs 15) := by rw [ha]; exact fillA_get0 (j := 15) (by kernel_rfl) (by rw [hsz]; decide)
                have q15 : vs 15 = .bool false := hD 15 (by simp [waits, Region.binds])
                rw [q15] at r126
                have r17 : a.tmps[17]? = some (.int .i64 (k : Int)) := by rw [ha, fillA_base0 (by kernel_rfl)]; exact tb17
                clear ha hU hD ha0
                rw [if_pos (by simp [Region.wanted, yielded, r126])]
                go_simp
                exact hK _ hC (Below.refl _ _)
              · -- 17
                intro vs a W K ha hC hD hU hK
                have r126 : a.tmps[126]? = some (vs 15) := by rw [ha]; exact fillA_get0 (j := 15) (by kernel_rfl) (by rw [hsz]; decide)
                have q15 : vs 15 = .bool false := hD 15 (by simp [waits, Region.binds])
                rw [q15] at r126
                have r127 : a.tmps[127]? = some (vs 16) := by rw [ha]; exact fillA_get0 (j := 16) (by kernel_rfl) (by rw [hsz]; decide)
                have q16 : vs 16 = .int .i64 (k : Int) := hD 16 (by simp [waits, Region.binds])
                rw [q16] at r127
                clear ha hU hD ha0
                rw [if_pos (by simp [Region.wanted, yielded, r126])]
                go_simp
                exact hK _ hC (Below.refl _ _)
              · -- 18
                intro vs a W K ha hC hD hU hK
                have r126 : a.tmps[126]? = some (vs 15) := by rw [ha]; exact fillA_get0 (j := 15) (by kernel_rfl) (by rw [hsz]; decide)
                have q15 : vs 15 = .bool false := hD 15 (by simp [waits, Region.binds])
                rw [q15] at r126
                have r128 : a.tmps[128]? = some (vs 17) := by rw [ha]; exact fillA_get0 (j := 17) (by kernel_rfl) (by rw [hsz]; decide)
                have q17 : vs 17 = .bool true := hD 17 (by simp [waits, Region.binds])
                rw [q17] at r128
                clear ha hU hD ha0
                rw [if_pos (by simp [Region.wanted, yielded, r126])]
                go_simp
                exact hK _ hC (Below.refl _ _)
              · -- 19
                intro vs a W K ha hC hD hU hK
                have r129 : a.tmps[129]? = some (vs 18) := by rw [ha]; exact fillA_get0 (j := 18) (by kernel_rfl) (by rw [hsz]; decide)
                have q18 : vs 18 = .bool true := hD 18 (by simp [waits, Region.binds])
                rw [q18] at r129
                have r8 : a.tmps[8]? = some (.slice (some ⟨bD, oD, none⟩) nX dc) := by rw [ha, fillA_base0 (by kernel_rfl)]; exact tb8
                clear ha hU hD ha0
                rw [if_pos (by simp [Region.wanted, yielded, r129])]
                go_simp
                exact hK _ hC (Below.refl _ _)
              · -- 20
                intro vs a W K ha hC hD hU hK
                have r129 : a.tmps[129]? = some (vs 18) := by rw [ha]; exact fillA_get0 (j := 18) (by kernel_rfl) (by rw [hsz]; decide)
                have q18 : vs 18 = .bool true := hD 18 (by simp [waits, Region.binds])
                rw [q18] at r129
                have r17 : a.tmps[17]? = some (.int .i64 (k : Int)) := by rw [ha, fillA_base0 (by kernel_rfl)]; exact tb17
                clear ha hU hD ha0
                rw [if_pos (by simp [Region.wanted, yielded, r129])]
                go_simp
                exact hK _ hC (Below.refl _ _)
              · -- 21
                intro vs a W K ha hC hD hU hK
                have r129 : a.tmps[129]? = some (vs 18) := by rw [ha]; exact fillA_get0 (j := 18) (by kernel_rfl) (by rw [hsz]; decide)
                have q18 : vs 18 = .bool true := hD 18 (by simp [waits, Region.binds])
                rw [q18] at r129
                have r130 : a.tmps[130]? = some (vs 19) := by rw [ha]; exact fillA_get0 (j := 19) (by kernel_rfl) (by rw [hsz]; decide)
                have q19 : vs 19 = .slice (some ⟨bD, oD, none⟩) nX dc := hD 19 (by simp [waits, Region.binds])
                rw [q19] at r130
                have r131 : a.tmps[131]? = some (vs 20) := by rw [ha]; exact fillA_get0 (j := 20) (by kernel_rfl) (by rw [hsz]; decide)
                have q20 : vs 20 = .int .i64 (k : Int) := hD 20 (by simp [waits, Region.binds])
                rw [q20] at r131
                clear ha hU hD ha0
                rw [if_pos (by simp [Region.wanted, yielded, r129])]
                go_simp
                exact hK _ hC (Below.refl _ _)
              · -- 22
                intro vs a W K ha hC hD hU hK
                have r129 : a.tmps[129]? = some (vs 18) := by rw [ha]; exact fillA_get0 (j := 18) (by kernel_rfl) (by rw [hsz]; decide)
                have q18 : vs 18 = .bool true := hD 18 (by simp [waits, Region.binds])
                rw [q18] at r129
                have r132 : a.tmps[132]? = some (vs 21) := by rw [ha]; exact fillA_get0 (j := 21) (by kernel_rfl) (by rw [hsz]; decide)
                have q21 : vs 21 = .pointer (some ⟨bD, oD + k, none⟩) := hD 21 (by simp [waits, Region.binds])
                rw [q21] at r132
                clear ha hU hD ha0
                rw [if_pos (by simp [Region.wanted, yielded, r129])]
                obtain ⟨k1, k2, k3, k4, k5, k6⟩ := kk.out W (bl_call HBWk.out hC (Nat.le_refl _))
                have kxx := kx.out W hC
                have kxy := kx1.out W hC
                go_simp
                exact hK _ hC (Below.refl _ _)
              · -- 23
                intro vs a W K ha hC hD hU hK
                have r129 : a.tmps[129]? = some (vs 18) := by rw [ha]; exact fillA_get0 (j := 18) (by kernel_rfl) (by rw [hsz]; decide)
                have q18 : vs 18 = .bool true := hD 18 (by simp [waits, Region.binds])
                rw [q18] at r129
                have r8 : a.tmps[8]? = some (.slice (some ⟨bD, oD, none⟩) nX dc) := by rw [ha, fillA_base0 (by kernel_rfl)]; exact tb8
                clear ha hU hD ha0
                rw [if_pos (by simp [Region.wanted, yielded, r129])]
                go_simp
                exact hK _ hC (Below.refl _ _)
              · -- 24
                intro vs a W K ha hC hD hU hK
                have r129 : a.tmps[129]? = some (vs 18) := by rw [ha]; exact fillA_get0 (j := 18) (by kernel_rfl) (by rw [hsz]; decide)
                have q18 : vs 18 = .bool true := hD 18 (by simp [waits, Region.binds])
                rw [q18] at r129
                have r17 : a.tmps[17]? = some (.int .i64 (k : Int)) := by rw [ha, fillA_base0 (by kernel_rfl)]; exact tb17
                clear ha hU hD ha0
                rw [if_pos (by simp [Region.wanted, yielded, r129])]
                go_simp
                exact hK _ hC (Below.refl _ _)
              · -- 25
                intro vs a W K ha hC hD hU hK
                have r129 : a.tmps[129]? = some (vs 18) := by rw [ha]; exact fillA_get0 (j := 18) (by kernel_rfl) (by rw [hsz]; decide)
                have q18 : vs 18 = .bool true := hD 18 (by simp [waits, Region.binds])
                rw [q18] at r129
                have r135 : a.tmps[135]? = some (vs 24) := by rw [ha]; exact fillA_get0 (j := 24) (by kernel_rfl) (by rw [hsz]; decide)
                have q24 : vs 24 = .int .i64 (k : Int) := hD 24 (by simp [waits, Region.binds])
                rw [q24] at r135
                clear ha hU hD ha0
                rw [if_pos (by simp [Region.wanted, yielded, r129])]
                go_simp
                exact hK _ hC (Below.refl _ _)
              · -- 26
                intro vs a W K ha hC hD hU hK
                have r129 : a.tmps[129]? = some (vs 18) := by rw [ha]; exact fillA_get0 (j := 18) (by kernel_rfl) (by rw [hsz]; decide)
                have q18 : vs 18 = .bool true := hD 18 (by simp [waits, Region.binds])
                rw [q18] at r129
                have r134 : a.tmps[134]? = some (vs 23) := by rw [ha]; exact fillA_get0 (j := 23) (by kernel_rfl) (by rw [hsz]; decide)
                have q23 : vs 23 = .slice (some ⟨bD, oD, none⟩) nX dc := hD 23 (by simp [waits, Region.binds])
                rw [q23] at r134
                have r136 : a.tmps[136]? = some (vs 25) := by rw [ha]; exact fillA_get0 (j := 25) (by kernel_rfl) (by rw [hsz]; decide)
                have q25 : vs 25 = .int .i64 (k1x : Int) := hD 25 (by simp [waits, Region.binds])
                rw [q25] at r136
                clear ha hU hD ha0
                rw [if_pos (by simp [Region.wanted, yielded, r129])]
                go_simp
                exact hK _ hC (Below.refl _ _)
              · -- 27
                intro vs a W K ha hC hD hU hK
                have r129 : a.tmps[129]? = some (vs 18) := by rw [ha]; exact fillA_get0 (j := 18) (by kernel_rfl) (by rw [hsz]; decide)
                have q18 : vs 18 = .bool true := hD 18 (by simp [waits, Region.binds])
                rw [q18] at r129
                have r137 : a.tmps[137]? = some (vs 26) := by rw [ha]; exact fillA_get0 (j := 26) (by kernel_rfl) (by rw [hsz]; decide)
                have q26 : vs 26 = .pointer (some ⟨bD, oD + k1x, none⟩) := hD 26 (by simp [waits, Region.binds])
                rw [q26] at r137
                clear ha hU hD ha0
                rw [if_pos (by simp [Region.wanted, yielded, r129])]
                obtain ⟨k1, k2, k3, k4, k5, k6⟩ := kk.out W (bl_call HBWk.out hC (Nat.le_refl _))
                have kxx := kx.out W hC
                have kxy := kx1.out W hC
                go_simp
                exact hK _ hC (Below.refl _ _)
              · -- 28
                intro vs a W K ha hC hD hU hK
                have r129 : a.tmps[129]? = some (vs 18) := by rw [ha]; exact fillA_get0 (j := 18) (by kernel_rfl) (by rw [hsz]; decide)
                have q18 : vs 18 = .bool true := hD 18 (by simp [waits, Region.binds])
                rw [q18] at r129
                have r133 : a.tmps[133]? = some (vs 22) := by rw [ha]; exact fillA_get0 (j := 22) (by kernel_rfl) (by rw [hsz]; decide)
                have q22 : vs 22 = .int .i64 x := hD 22 (by simp [waits, Region.binds])
                rw [q22] at r133
                have r138 : a.tmps[138]? = some (vs 27) := by rw [ha]; exact fillA_get0 (j := 27) (by kernel_rfl) (by rw [hsz]; decide)
                have q27 : vs 27 = .int .i64 x1 := hD 27 (by simp [waits, Region.binds])
                rw [q27] at r138
                clear ha hU hD ha0
                rw [if_pos (by simp [Region.wanted, yielded, r129])]
                go_simp
                exact hK _ hC (Below.refl _ _)
              · -- 29
                intro vs a W K ha hC hD hU hK
                have r126 : a.tmps[126]? = some (vs 15) := by rw [ha]; exact fillA_get0 (j := 15) (by kernel_rfl) (by rw [hsz]; decide)
                have q15 : vs 15 = .bool false := hD 15 (by simp [waits, Region.binds])
                rw [q15] at r126
                have r129 : a.tmps[129]? = some (vs 18) := by rw [ha]; exact fillA_get0 (j := 18) (by kernel_rfl) (by rw [hsz]; decide)
                have q18 : vs 18 = .bool true := hD 18 (by simp [waits, Region.binds])
                rw [q18] at r129
                have r139 : a.tmps[139]? = some (vs 28) := by rw [ha]; exact fillA_get0 (j := 28) (by kernel_rfl) (by rw [hsz]; decide)
                have q28 : vs 28 = .bool false := hD 28 (by simp [waits, Region.binds])
                rw [q28] at r139
                clear ha hU hD ha0
                rw [if_pos (by simp [Region.wanted, yielded, r126])]
                go_simp
                exact hK _ hC (Below.refl _ _)
              · -- 30
                intro vs a W K ha hC hD hU hK
                have r126 : a.tmps[126]? = some (vs 15) := by rw [ha]; exact fillA_get0 (j := 15) (by kernel_rfl) (by rw [hsz]; decide)
                have q15 : vs 15 = .bool false := hD 15 (by simp [waits, Region.binds])
                rw [q15] at r126
                have r140 : a.tmps[140]? = some (vs 29) := by rw [ha]; exact fillA_get0 (j := 29) (by kernel_rfl) (by rw [hsz]; decide)
                have q29 : vs 29 = .bool false := hD 29 (by simp [waits, Region.binds])
                rw [q29] at r140
                clear ha hU hD ha0
                rw [if_pos (by rfl)]
                go_simp
                exact hK _ hC (Below.refl _ _)
            case finBy =>
              refine Fin1.none (Nat.le_refl _) ?_
              intro vs W a1 hC hE ha
              have eL : vs 30 = .bool false := hE 30 (by simp)
              rw [ha, ha0]
              clear ha ha0 hsz tb4 tb8 tb17
              simp only [fillA, Act.put, List.setIfInBounds_toArray, List.set_cons_zero, List.set_cons_succ, Nat.zero_add, Nat.reduceAdd, eL]
              obtain ⟨u0, hu0⟩ : ∃ v0, vs 0 = v0 := ⟨_, rfl⟩
              obtain ⟨u1, hu1⟩ : ∃ v0, vs 1 = v0 := ⟨_, rfl⟩
              obtain ⟨u2, hu2⟩ : ∃ v0, vs 2 = v0 := ⟨_, rfl⟩
              obtain ⟨u3, hu3⟩ : ∃ v0, vs 3 = v0 := ⟨_, rfl⟩
              obtain ⟨u4, hu4⟩ : ∃ v0, vs 4 = v0 := ⟨_, rfl⟩
              obtain ⟨u5, hu5⟩ : ∃ v0, vs 5 = v0 := ⟨_, rfl⟩
              obtain ⟨u6, hu6⟩ : ∃ v0, vs 6 = v0 := ⟨_, rfl⟩
              obtain ⟨u7, hu7⟩ : ∃ v0, vs 7 = v0 := ⟨_, rfl⟩
              obtain ⟨u8, hu8⟩ : ∃ v0, vs 8 = v0 := ⟨_, rfl⟩
              obtain ⟨u9, hu9⟩ : ∃ v0, vs 9 = v0 := ⟨_, rfl⟩
              obtain ⟨u10, hu10⟩ : ∃ v0, vs 10 = v0 := ⟨_, rfl⟩
              obtain ⟨u11, hu11⟩ : ∃ v0, vs 11 = v0 := ⟨_, rfl⟩
              obtain ⟨u12, hu12⟩ : ∃ v0, vs 12 = v0 := ⟨_, rfl⟩
              obtain ⟨u13, hu13⟩ : ∃ v0, vs 13 = v0 := ⟨_, rfl⟩
              obtain ⟨u14, hu14⟩ : ∃ v0, vs 14 = v0 := ⟨_, rfl⟩
              obtain ⟨u15, hu15⟩ : ∃ v0, vs 15 = v0 := ⟨_, rfl⟩
              obtain ⟨u16, hu16⟩ : ∃ v0, vs 16 = v0 := ⟨_, rfl⟩
              obtain ⟨u17, hu17⟩ : ∃ v0, vs 17 = v0 := ⟨_, rfl⟩
              obtain ⟨u18, hu18⟩ : ∃ v0, vs 18 = v0 := ⟨_, rfl⟩
              obtain ⟨u19, hu19⟩ : ∃ v0, vs 19 = v0 := ⟨_, rfl⟩
              obtain ⟨u20, hu20⟩ : ∃ v0, vs 20 = v0 := ⟨_, rfl⟩
              obtain ⟨u21, hu21⟩ : ∃ v0, vs 21 = v0 := ⟨_, rfl⟩
              obtain ⟨u22, hu22⟩ : ∃ v0, vs 22 = v0 := ⟨_, rfl⟩
              obtain ⟨u23, hu23⟩ : ∃ v0, vs 23 = v0 := ⟨_, rfl⟩
              obtain ⟨u24, hu24⟩ : ∃ v0, vs 24 = v0 := ⟨_, rfl⟩
              obtain ⟨u25, hu25⟩ : ∃ v0, vs 25 = v0 := ⟨_, rfl⟩
              obtain ⟨u26, hu26⟩ : ∃ v0, vs 26 = v0 := ⟨_, rfl⟩
              obtain ⟨u27, hu27⟩ : ∃ v0, vs 27 = v0 := ⟨_, rfl⟩
              obtain ⟨u28, hu28⟩ : ∃ v0, vs 28 = v0 := ⟨_, rfl⟩
              obtain ⟨u29, hu29⟩ : ∃ v0, vs 29 = v0 := ⟨_, rfl⟩
              rw [hu0, hu1, hu2, hu3, hu4, hu5, hu6, hu7, hu8, hu9, hu10, hu11, hu12, hu13, hu14, hu15, hu16, hu17, hu18, hu19, hu20, hu21, hu22, hu23, hu24, hu25, hu26, hu27, hu28, hu29]
              clear hu0 hu1 hu2 hu3 hu4 hu5 hu6 hu7 hu8 hu9 hu10 hu11 hu12 hu13 hu14 hu15 hu16 hu17 hu18 hu19 hu20 hu21 hu22 hu23 hu24 hu25 hu26 hu27 hu28 hu29
              have HEND : Hid (Below V10.heap.size V10 W) := bl_call HBk.out hC (Nat.le_refl _)
              clear hE eL hC
              go_wp2_with fail
              go_roundw
              case rel => exact ⟨k + 1, by omega, by go_num, HEND.out⟩
              case measure => simp [intOf]; omega
  · have heb : (err7 s == 0) = false := by simpa using he
    rw [heb]
    clear he heb
    go_wp2_with fail
    refine (awake7_any V1).mono ?_
    rintro e V99 ⟨rfl, c99⟩
    have b99 := bl_call hBW (bl_call b1 c99 (Nat.le_refl _)) (Nat.le_refl _)
    clear c99
    go_wp2
    go_ret
    exact ⟨by rfl, b99⟩
end Go.Proofs.YtpdldmichpmgmaaGreat
