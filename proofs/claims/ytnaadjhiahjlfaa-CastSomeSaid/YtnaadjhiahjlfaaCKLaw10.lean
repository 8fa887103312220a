/- Walks, layer 7: the law CastSome. -/
import Derived.Test.YtnaadjhiahjlfaaCKLaw4
import Derived.Test.YtnaadjhiahjlfaaCKOut4
import Derived.Test.YtnaadjhiahjlfaaCKOuts
import Derived.Test.YtnaadjhiahjlfaaCKPlanP
import Derived.Test.YtnaadjhiahjlfaaCKTold
set_option linter.unusedVariables false
set_option linter.unusedSimpArgs false
set_option linter.all false
namespace Go.Proofs.Ytnaadjhiahjlfaa
open Go.RowKit Go.Shelf

theorem pickP_snoc {p : List (Int × Int)} {set : List Int} {k : Nat} {x : Int} (h : set[k]? = some x) : pickP p (set.take (k + 1)) = pickP p (set.take k) ++ [p.getD x.toNat (0, 0)] := by
  unfold pickP
  rw [take_snoc_get h, List.map_append]
  rfl
theorem pickP_len (p : List (Int × Int)) (set : List Int) : (pickP p set).length = set.length := by simp [pickP]
theorem set_asc {n : Nat} {set : List Int} (h : IsSet n set) {k : Nat} {x y : Int} (hx : set[k]? = some x) (hy : set[k + 1]? = some y) : x < y := by
  have hl : k + 1 < set.length := of_getq hy
  have := List.pairwise_iff_getElem.1 h.1 k (k + 1) (by omega) hl (by omega)
  rw [List.getElem?_eq_getElem (by omega)] at hx
  rw [List.getElem?_eq_getElem hl] at hy
  injection hx with hx
  injection hy with hy
  omega

set_option maxRecDepth 100000 in
set_option maxHeartbeats 8000000 in
theorem someLaw_any {A XA XB O : Option Addr} {n ca xn xc xm xd m od bits : Nat} {s : Shop} {klo khi : Int} {xs ys : List Nat} {p : List (Int × Int)} (w : World) (g : Moulds (fun _ => True) w A n s.moulds) (hX : Bytes (fun _ => True) w XA xn xs) (hY : Bytes (fun _ => True) w XB xm ys) (hP : Pairs (fun _ => True) w O m p) (hbits : bits < 256) (hca : n ≤ ca) (h1 : s.klo = klo) (h2 : s.khi = khi) :
    Calls Try.prog 10 #[.agg #[.int .i64 klo, .int .i64 khi, .slice A n ca], .agg #[.slice XA xn xc, .slice XB xm xd, .slice O m od], .int .u8 bits] w fun e w' => e = .returned (.bool true) ∧ Below w.heap.size w w' := by
  obtain ⟨iP, hiP, hzP0, hzP1, hzP2⟩ := info_parts infoSp7
  obtain ⟨W, hW⟩ : ∃ W, (w.alloc (.cells #[.int .i64 klo, .int .i64 khi, .slice A n ca] 46)).alloc (.cells #[.slice XA xn xc, .slice XB xm xd, .slice O m od] 98) = W := ⟨_, rfl⟩
  have X : Blk W w.heap.size 46 #[.int .i64 klo, .int .i64 khi, .slice A n ca] := by rw [← hW]; exact (Blk.new _ _ _ rfl).alloc _
  have Z : Blk W (w.heap.size + 1) 98 #[.slice XA xn xc, .slice XB xm xd, .slice O m od] := by rw [← hW]; exact Blk.new _ _ _ (by simp)
  have hBW : Below w.heap.size w W := by rw [← hW]; exact bl_alloc (bl_alloc (Below.refl _ _) _ (Nat.le_refl _)) _ (Nat.le_refl _)
  have HG : Hid (∀ V, Below W.heap.size W V → Moulds (fun _ => True) V A n s.moulds) := fun V hb => (g.keep MouldR.good (Keeps.below hBW)).keep MouldR.good (Keeps.below hb)
  have HXS : Hid (∀ V, Below W.heap.size W V → Bytes (fun _ => True) V XA xn xs) := fun V hb => (hX.keep ByteR.good (Keeps.below hBW)).keep ByteR.good (Keeps.below hb)
  have HYS : Hid (∀ V, Below W.heap.size W V → Bytes (fun _ => True) V XB xm ys) := fun V hb => (hY.keep ByteR.good (Keeps.below hBW)).keep ByteR.good (Keeps.below hb)
  have HPS : Hid (∀ V, Below W.heap.size W V → Pairs (fun _ => True) V O m p) := fun V hb => (hP.keep PairR.good (Keeps.below hBW)).keep PairR.good (Keeps.below hb)
  have kk : Hid (∀ V, Below W.heap.size W V → V.cell? ⟨w.heap.size, 0, none⟩ = some (.int .i64 klo) ∧ V.cell? ⟨w.heap.size, 1, none⟩ = some (.int .i64 khi) ∧ V.cell? ⟨w.heap.size, 2, none⟩ = some (.slice A n ca) ∧ V.cell? ⟨w.heap.size + 1, 0, none⟩ = some (.slice XA xn xc) ∧ V.cell? ⟨w.heap.size + 1, 1, none⟩ = some (.slice XB xm xd) ∧ V.cell? ⟨w.heap.size + 1, 2, none⟩ = some (.slice O m od)) :=
    fun V hb => ⟨(X.bl hb).cell 0, (X.bl hb).cell 1, (X.bl hb).cell 2, (Z.bl hb).cell 0, (Z.bl hb).cell 1, (Z.bl hb).cell 2⟩
  have Hn := Lib.hid g.len
  have Hm := Lib.hid hP.len
  have hnl := g.le
  have hml := hP.le
  clear X Z g hX hY hP
  obtain ⟨x0, x1, x2, y0, y1, y2⟩ := kk.out W (Below.refl _ _)
  go_enter Try.func10, Try.ntmps10
  go_wp2_with fail
  clear hW x0 x1 x2 y0 y1 y2
  obtain ⟨WW, hWW⟩ : ∃ V, V = W := ⟨_, rfl⟩
  subst hWW
  refine (valid7_any WW (HG.out WW (Below.refl _ _)) h1 h2).mono ?_
  rintro e V1 ⟨rfl, b1⟩
  by_cases he : err7 s = 0
  · have heb : (err7 s == 0) = true := by rw [he]; rfl
    rw [heb]
    have HE : Hid ((check7 s).2.2 = 0) := he
    have hok := okS_of HE.out
    have HOK := Lib.hid hok
    have HTR := Lib.hid (any_truth hok xs)
    obtain ⟨k0, hk0⟩ : ∃ x, anyS7 s xs = x := ⟨_, rfl⟩
    obtain ⟨tw, htw⟩ : ∃ x, anyT7 s xs = x := ⟨_, rfl⟩
    rw [hk0, htw] at HTR
    have HBD := Lib.hid (truth_bd hok HTR.out)
    have HKB := Lib.hid (truth_k hok HTR.out)
    obtain ⟨l, hl⟩ : ∃ x, toldL7 s k0 tw ys = x := ⟨_, rfl⟩
    have HSI : Hid (∀ y ∈ l, SeenIn s k0 tw y) := by rw [← hl]; exact toldL_seen hok HTR.out ys
    have HL6 : Hid (l.length ≤ 6) := by rw [← hl]; exact toldL_len _ _ _ _
    have HA : Hid (∀ V, Below WW.heap.size WW V → Calls Try.prog 37 #[.agg #[.int .i64 klo, .int .i64 khi, .slice A n ca], .slice XA xn xc] V fun e w' => (∃ v, e = .returned v ∧ TruthV V.heap.size k0 tw v w') ∧ Below V.heap.size V w') := fun V hb => by
      have := any7_any (ca := ca) (cc := xc) V (HG.out V hb) (HXS.out V hb) h1 h2 HOK.out
      rw [hk0, htw] at this
      exact this.mono fun e w' h => ⟨TruthV.of h.1, h.2⟩
    have HT : Hid (∀ (V : World) (B : Nat) (v : Value), Below WW.heap.size WW V → TruthV B k0 tw v V → Calls Try.prog 38 #[.agg #[.int .i64 klo, .int .i64 khi, .slice A n ca], v, .slice XB xm xd] V fun e w' => (∃ v, e = .returned v ∧ SeensV V.heap.size l v w') ∧ Below V.heap.size V w') := fun V B v hb hv => by
      obtain ⟨D, dc, rfl, hD⟩ := hv
      have := told7_any (klo := klo) (khi := khi) (ca := ca) (cc := xd) (dc := dc) V (HG.out V hb) (HYS.out V hb) (hD.mono PairR.good (T := fun _ => True) (fun _ _ => trivial)) HOK.out (HTR.out.len) HBD.out HKB.out
      rw [hl] at this
      exact this.mono fun e w' h => ⟨SeensV.of h.1, h.2⟩
    have HB1 := Lib.hid b1
    clear hk0 htw hl he heb b1
    go_wp2_with fail
    refine wp_frameT ?_
    intro a0 ha0
    have tb3 : a0.tmps[3]? = some (.pointer (some ⟨w.heap.size, 0, none⟩)) := by rw [ha0]; kernel_rfl
    have tb4 : a0.tmps[4]? = some (.pointer (some ⟨w.heap.size + 1, 0, none⟩)) := by rw [ha0]; kernel_rfl
    have hsz : a0.tmps.size = 165 := by rw [ha0]; kernel_rfl
    refine wp_region_list (fun W => Below V1.heap.size V1 W) (fun w w' => Below w.heap.size w w')
      [isV (.agg #[.int .i64 klo, .int .i64 khi, .slice A n ca]), isV (.agg #[.int .i64 klo, .int .i64 khi, .slice A n ca]), isV (.pointer (some ⟨w.heap.size + 1, 0, none⟩)), isV (.pointer (some ⟨w.heap.size + 1, 0, none⟩)), isV (.slice XA xn xc), TruthV V1.heap.size k0 tw, isV (.pointer (some ⟨w.heap.size + 1, 0, none⟩)), isV (.pointer (some ⟨w.heap.size + 1, 1, none⟩)), isV (.slice XB xm xd), SeensV V1.heap.size l]
      (by kernel_rfl) (by kernel_rfl) (by kernel_rfl) (by simp) (by simp) (Below.refl _ _).drew ?stabA ?stepA ?finA
    case stabA => exact (StabL.is (StabL.is (StabL.is (StabL.is (StabL.is (StabL.cons (fun v W V hC hX h => h.bl hX) (StabL.is (StabL.is (StabL.is (StabL.cons (fun v W V hC hX h => h.bl hX) StabL.nil))))))))))
    case stepA =>
      refine StepsL.isA ?_ (StepsL.isA ?_ (StepsL.isA ?_ (StepsL.isA ?_ (StepsL.isA ?_ (StepsL.consA ?_ (StepsL.isA ?_ (StepsL.isA ?_ (StepsL.isA ?_ (StepsL.consA ?_ StepsL.nil)))))))))
      · -- 0
        intro vs a W K ha hC hD hU hK
        have r3 : a.tmps[3]? = some (.pointer (some ⟨w.heap.size, 0, none⟩)) := by rw [ha, fillA_base0 (by kernel_rfl)]; exact tb3
        clear ha hU hD ha0
        rw [if_pos (by rfl)]
        obtain ⟨k1, k2, k3, k4, k5, k6⟩ := kk.out W (bl_call HB1.out hC (Nat.le_refl _))
        go_simp
        exact hK _ hC (Below.refl _ _)
      · -- 1
        intro vs a W K ha hC hD hU hK
        have r3 : a.tmps[3]? = some (.pointer (some ⟨w.heap.size, 0, none⟩)) := by rw [ha, fillA_base0 (by kernel_rfl)]; exact tb3
        clear ha hU hD ha0
        rw [if_pos (by rfl)]
        obtain ⟨k1, k2, k3, k4, k5, k6⟩ := kk.out W (bl_call HB1.out hC (Nat.le_refl _))
        go_simp
        exact hK _ hC (Below.refl _ _)
      · -- 2
        intro vs a W K ha hC hD hU hK
        have r4 : a.tmps[4]? = some (.pointer (some ⟨w.heap.size + 1, 0, none⟩)) := by rw [ha, fillA_base0 (by kernel_rfl)]; exact tb4
        clear ha hU hD ha0
        rw [if_pos (by rfl)]
        go_simp
        exact hK _ hC (Below.refl _ _)
      · -- 3
        intro vs a W K ha hC hD hU hK
        have r28 : a.tmps[28]? = some (vs 2) := by rw [ha]; exact fillA_get0 (j := 2) (by kernel_rfl) (by rw [hsz]; decide)
        have q2 : vs 2 = .pointer (some ⟨w.heap.size + 1, 0, none⟩) := hD 2 (by simp [waits, Region.binds])
        rw [q2] at r28
        clear ha hU hD ha0
        rw [if_pos (by rfl)]
        go_simp
        exact hK _ hC (Below.refl _ _)
      · -- 4
        intro vs a W K ha hC hD hU hK
        have r29 : a.tmps[29]? = some (vs 3) := by rw [ha]; exact fillA_get0 (j := 3) (by kernel_rfl) (by rw [hsz]; decide)
        have q3 : vs 3 = .pointer (some ⟨w.heap.size + 1, 0, none⟩) := hD 3 (by simp [waits, Region.binds])
        rw [q3] at r29
        clear ha hU hD ha0
        rw [if_pos (by rfl)]
        obtain ⟨k1, k2, k3, k4, k5, k6⟩ := kk.out W (bl_call HB1.out hC (Nat.le_refl _))
        go_simp
        exact hK _ hC (Below.refl _ _)
      · -- 5
        intro vs a W K ha hC hD hU hK
        have r27 : a.tmps[27]? = some (vs 1) := by rw [ha]; exact fillA_get0 (j := 1) (by kernel_rfl) (by rw [hsz]; decide)
        have q1 : vs 1 = .agg #[.int .i64 klo, .int .i64 khi, .slice A n ca] := hD 1 (by simp [waits, Region.binds])
        rw [q1] at r27
        have r30 : a.tmps[30]? = some (vs 4) := by rw [ha]; exact fillA_get0 (j := 4) (by kernel_rfl) (by rw [hsz]; decide)
        have q4 : vs 4 = .slice XA xn xc := hD 4 (by simp [waits, Region.binds])
        rw [q4] at r30
        clear ha hU hD ha0
        rw [if_pos (by rfl)]
        go_simp
        refine (HA.out W (bl_call HB1.out hC (Nat.le_refl _))).mono ?_
        rintro e w' ⟨⟨v, rfl, hv⟩, hb⟩
        exact hK _ _ (bl_call hC hb (Nat.le_refl _)) hb (hv.low hC.size)
      · -- 6
        intro vs a W K ha hC hD hU hK
        have r4 : a.tmps[4]? = some (.pointer (some ⟨w.heap.size + 1, 0, none⟩)) := by rw [ha, fillA_base0 (by kernel_rfl)]; exact tb4
        clear ha hU hD ha0
        rw [if_pos (by rfl)]
        go_simp
        exact hK _ hC (Below.refl _ _)
      · -- 7
        intro vs a W K ha hC hD hU hK
        have r32 : a.tmps[32]? = some (vs 6) := by rw [ha]; exact fillA_get0 (j := 6) (by kernel_rfl) (by rw [hsz]; decide)
        have q6 : vs 6 = .pointer (some ⟨w.heap.size + 1, 0, none⟩) := hD 6 (by simp [waits, Region.binds])
        rw [q6] at r32
        clear ha hU hD ha0
        rw [if_pos (by rfl)]
        go_simp
        exact hK _ hC (Below.refl _ _)
      · -- 8
        intro vs a W K ha hC hD hU hK
        have r33 : a.tmps[33]? = some (vs 7) := by rw [ha]; exact fillA_get0 (j := 7) (by kernel_rfl) (by rw [hsz]; decide)
        have q7 : vs 7 = .pointer (some ⟨w.heap.size + 1, 1, none⟩) := hD 7 (by simp [waits, Region.binds])
        rw [q7] at r33
        clear ha hU hD ha0
        rw [if_pos (by rfl)]
        obtain ⟨k1, k2, k3, k4, k5, k6⟩ := kk.out W (bl_call HB1.out hC (Nat.le_refl _))
        go_simp
        exact hK _ hC (Below.refl _ _)
      · -- 9
        intro vs a W K ha hC hD hU hK
        have r26 : a.tmps[26]? = some (vs 0) := by rw [ha]; exact fillA_get0 (j := 0) (by kernel_rfl) (by rw [hsz]; decide)
        have q0 : vs 0 = .agg #[.int .i64 klo, .int .i64 khi, .slice A n ca] := hD 0 (by simp [waits, Region.binds])
        rw [q0] at r26
        have r31 : a.tmps[31]? = some (vs 5) := by rw [ha]; exact fillA_get0 (j := 5) (by kernel_rfl) (by rw [hsz]; decide)
        have P5 : TruthV V1.heap.size k0 tw (vs 5) W := hD 5 (by simp [waits, Region.binds])
        obtain ⟨D31, d31, e31, hI31⟩ := P5
        rw [e31] at r31
        have r34 : a.tmps[34]? = some (vs 8) := by rw [ha]; exact fillA_get0 (j := 8) (by kernel_rfl) (by rw [hsz]; decide)
        have q8 : vs 8 = .slice XB xm xd := hD 8 (by simp [waits, Region.binds])
        rw [q8] at r34
        clear ha hU hD ha0
        rw [if_pos (by rfl)]
        go_simp
        refine (HT.out W V1.heap.size _ (bl_call HB1.out hC (Nat.le_refl _)) ⟨_, _, rfl, hI31⟩).mono ?_
        rintro e w' ⟨⟨v, rfl, hv⟩, hb⟩
        exact hK _ _ (bl_call hC hb (Nat.le_refl _)) hb (hv.low hC.size)
    case finA =>
      intro vs W hC hE hU
      rw [ha0]
      clear hU hsz tb3 tb4
      have E9 : SeensV V1.heap.size l (vs 9) W := hE 9 (by simp)
      simp only [fillA, Act.put, List.setIfInBounds_toArray, List.set_cons_zero, List.set_cons_succ, Nat.zero_add, Nat.reduceAdd]
      obtain ⟨C, cc, e9, hS⟩ := E9
      rw [e9]
      obtain ⟨u0, hu0⟩ : ∃ v0, vs 0 = v0 := ⟨_, rfl⟩
      obtain ⟨u1, hu1⟩ : ∃ v0, vs 1 = v0 := ⟨_, rfl⟩
      obtain ⟨u2, hu2⟩ : ∃ v0, vs 2 = v0 := ⟨_, rfl⟩
      obtain ⟨u3, hu3⟩ : ∃ v0, vs 3 = v0 := ⟨_, rfl⟩
      obtain ⟨u4, hu4⟩ : ∃ v0, vs 4 = v0 := ⟨_, rfl⟩
      obtain ⟨u5, hu5⟩ : ∃ v0, vs 5 = v0 := ⟨_, rfl⟩
      obtain ⟨u6, hu6⟩ : ∃ v0, vs 6 = v0 := ⟨_, rfl⟩
      obtain ⟨u7, hu7⟩ : ∃ v0, vs 7 = v0 := ⟨_, rfl⟩
      obtain ⟨u8, hu8⟩ : ∃ v0, vs 8 = v0 := ⟨_, rfl⟩
      rw [hu0, hu1, hu2, hu3, hu4, hu5, hu6, hu7, hu8]
      clear hu0 hu1 hu2 hu3 hu4 hu5 hu6 hu7 hu8
      clear hE e9 HA HT
      obtain ⟨q, hq⟩ : ∃ x, l.length = x := ⟨_, rfl⟩
      rw [hq] at hS
      rw [hq]
      have HS : Hid (∀ V, Below W.heap.size W V → SeenCs (fun _ => True) V C q l) := fun V hb => (hS.keep SeenCR.good (Keeps.below hb)).mono SeenCR.good (fun _ _ => trivial)
      have HB4 : Hid (Below WW.heap.size WW W) := bl_call HB1.out hC (Nat.le_refl _)
      have HSN : Hid (seen7 s l = (0, 0)) := seen_ok HE.out HL6.out HSI.out
      clear hq hS hC HB1
      obtain ⟨V4, hV4⟩ : ∃ V, V = W := ⟨_, rfl⟩
      subst hV4
      obtain ⟨x0, x1, x2, _, _, y2⟩ := kk.out V4 HB4.out
      go_simp
      go_wp2_with fail
      clear x0 x1 x2 y2
      refine (ksome_any V4 (HG.out V4 HB4.out) (HS.out V4 (Below.refl _ _)) (HPS.out V4 HB4.out) hca h1 h2).mono ?_
      rintro e V5 ⟨⟨D, kc, rfl, hD⟩, c5⟩
      have HB5 : Hid (Below WW.heap.size WW V5) := bl_call HB4.out c5 (Nat.le_refl _)
      have H45 : Hid (Below V4.heap.size V4 V5) := c5
      clear c5
      obtain ⟨x0, x1, x2, _, _, y2⟩ := kk.out V5 HB5.out
      obtain ⟨sk, hsk⟩ : ∃ x, (someR s l p).1 = x := ⟨_, rfl⟩
      obtain ⟨se, hse⟩ : ∃ x, (someR s l p).2 = x := ⟨_, rfl⟩
      obtain ⟨sn, hsn⟩ : ∃ x, sk.length = x := ⟨_, rfl⟩
      rw [hsk, hsn] at hD
      rw [hsk, hse, hsn]
      have HSK := Lib.hid hsk
      have HSE := Lib.hid hse
      have HSL := Lib.hid hsn
      have HD := Lib.hid hD
      clear hsk hse hsn hD
      go_wp2_with fail
      clear x0 x1 x2 y2
      refine (rorder7_any V5 (HG.out V5 HB5.out) (HS.out V5 H45.out) (HPS.out V5 HB5.out) h1 h2).mono ?_
      rintro e V6 ⟨rfl, c6⟩
      have HB6 : Hid (Below WW.heap.size WW V6) := bl_call HB5.out c6 (Nat.le_refl _)
      have H46 : Hid (Below V4.heap.size V4 V6) := bl_call H45.out c6 (Nat.le_refl _)
      have HD6 : Hid (∀ V, Below V6.heap.size V6 V → Ints (fun _ => True) V D sn sk) := fun V hb => (HD.out.keep IntR.good (Keeps.below (bl_call c6 hb (Nat.le_refl _)))).mono IntR.good (fun _ _ => trivial)
      have hsnl : sn ≤ 9223372036854775807 := (HD.out).le
      clear c6 HD
      by_cases h0 : orderE s l p = 0
      · have HSO := some_set h0
        obtain ⟨hsr, hset⟩ := HSO
        rw [h0]
        have hse0 : se = 0 := by rw [← HSE.out, hsr]
        have hskE : someK (allL s l p) p.length = sk := by rw [← HSK.out, hsr]
        rw [hskE] at hset hsr
        subst hse0
        have HSET := Lib.hid hset
        have HSKE := Lib.hid hskE
        have H00 := Lib.hid h0
        obtain ⟨_, _, hp1, hp6⟩ := order_zero h0
        rw [Hm.out] at hp1 hp6
        have hsn6 : sn ≤ 6 := by have := set_len hset; rw [HSL.out, Hm.out] at this; omega
        clear hsr hset hskE h0 HSE
        go_wp2_with fail
        go_loopw [11, 13] (fun o i wr => ∃ (k cap : Nat) (An : Option Addr), k ≤ sn ∧ i = .int .i64 k ∧ o = .slice An k cap ∧ Hid (Below V6.heap.size V6 wr) ∧ Hid (OwnL PairR 2 (fun _ => False) wr V6.heap.size 23 (.slice An k cap) (pickP p (sk.take k)))) (fun _ i _ => sn - (intOf i).toNat)
        case atStart => exact ⟨0, 0, none, Nat.zero_le _, rfl, rfl, Below.refl _ _, OwnL.nil _ _ _ _ _ _⟩
        case round =>
          obtain ⟨k, cap, An, hk, rfl, rfl, HBr, HO⟩ := hrel
          have HBw : Hid (Below WW.heap.size WW wr) := bl_call HB6.out HBr.out (Nat.le_refl _)
          have Hlen : Hid ((pickP p (sk.take k)).length = k) := by rw [Hid, pickP_len, List.length_take, HSL.out]; omega
          by_cases hlt : k < sn
          · have hki : (k : Int) < sn := by omega
            obtain ⟨bS, oS, x, rfl, hcS, HxS⟩ := Ints.get (HD6.out wr HBr.out) hlt
            have hxb := HSET.out.2 _ (List.mem_of_getElem? HxS.out)
            rw [Hm.out] at hxb
            obtain ⟨xn1, rfl⟩ := Int.eq_ofNat_of_zero_le hxb.1
            have hxm : xn1 < m := by omega
            have hx0 : ¬ (xn1 : Int) < 0 := by omega
            have hx1n : ¬ m ≤ xn1 := by omega
            have hx1 : ¬ (m : Int) ≤ (xn1 : Int) := by omega
            have hxmi : (xn1 : Int) < m := by omega
            obtain ⟨bO, oO, pa, pz, rfl, _, hcA, hcZ, HxP⟩ := Pairs.get (HPS.out wr HBw.out) hxm
            have HNX : Hid (pickP p (sk.take (k + 1)) = pickP p (sk.take k) ++ [(pa, pz)]) := by rw [Hid, pickP_snoc HxS.out, Int.toNat_natCast, getD_of HxP.out]
            obtain ⟨_, _, _, _, _, y2⟩ := kk.out wr HBw.out
            have kq : Hid (∀ V, Below wr.heap.size wr V → V.cell? ⟨w.heap.size + 1, 2, none⟩ = some (.slice (some ⟨bO, oO, none⟩) m od) ∧ V.cell? ⟨bS, oS + k, none⟩ = some (.int .i64 (xn1 : Int)) ∧ V.cell? ⟨bO, oO + xn1 * 2, none⟩ = some (.int .i64 pa) ∧ V.cell? ⟨bO, oO + xn1 * 2 + 1, none⟩ = some (.int .i64 pz)) := fun V hb => ⟨getc hb y2, getc hb hcS, getc hb hcA, getc hb hcZ⟩
            have key : ∀ (V : World), Below wr.heap.size wr V → True := fun _ _ => trivial
            clear key
            rcases Nat.eq_zero_or_pos k with hk0 | hkp
            · subst hk0
              have hcS0 : wr.cell? ⟨bS, oS, none⟩ = some (.int .i64 (xn1 : Int)) := by simpa using hcS
              have hk00 : (0 : Int) < sn := by omega
              have kq0 : Hid (∀ V, Below wr.heap.size wr V → V.cell? ⟨bS, oS, none⟩ = some (.int .i64 (xn1 : Int))) := fun V hb => getc hb hcS0
              clear hcA hcZ
              go_wp2_with fail
              clear hcS hcS0 y2
              refine wp_frameT ?_
              intro a0 ha0
              have tb4 : a0.tmps[4]? = some (.pointer (some ⟨w.heap.size + 1, 0, none⟩)) := by rw [ha0]; kernel_rfl
              have tb8 : a0.tmps[8]? = some (.slice (some ⟨bS, oS, none⟩) sn kc) := by rw [ha0]; kernel_rfl
              have tb13 : a0.tmps[13]? = some (.int .i64 ((0 : Nat) : Int)) := by rw [ha0]; kernel_rfl
              have hsz : a0.tmps.size = 165 := by rw [ha0]; kernel_rfl
              refine wp_region_list (fun W => Below wr.heap.size wr W) (fun w w' => Below w.heap.size w w')
                [isV (.slice (some ⟨bS, oS, none⟩) sn kc), isV (.int .i64 ((0 : Nat) : Int)), isV (.pointer (some ⟨bS, oS + 0, none⟩)), isV (.int .i64 (xn1 : Int)), isV (.bool false), isV (.bool false), isV (.slice (some ⟨bS, oS, none⟩) sn kc), isV (.int .i64 ((0 : Nat) : Int)), isV (.pointer (some ⟨bS, oS + 0, none⟩)), isV (.int .i64 (xn1 : Int)), isV (.pointer (some ⟨w.heap.size + 1, 2, none⟩)), isV (.slice (some ⟨bO, oO, none⟩) m od), isV (.int .i64 (m : Int)), isV (.bool false), isV (.bool false), isV (.bool false), isV (.int .i64 ((0 : Nat) : Int)), isV (.bool false), isV (.bool false), isV (undef), isV (undef), isV (undef), isV (undef), isV (undef), isV (undef), isV (undef), isV (undef), isV (undef), isV (undef), isV (.bool false), isV (.bool false)]
                (by kernel_rfl) (by kernel_rfl) (by kernel_rfl) (by simp) (by simp) (Below.refl _ _).drew ?stabF ?stepF ?finF
              case stabF => exact (StabL.is (StabL.is (StabL.is (StabL.is (StabL.is (StabL.is (StabL.is (StabL.is (StabL.is (StabL.is (StabL.is (StabL.is (StabL.is (StabL.is (StabL.is (StabL.is (StabL.is (StabL.is (StabL.is (StabL.is (StabL.is (StabL.is (StabL.is (StabL.is (StabL.is (StabL.is (StabL.is (StabL.is (StabL.is (StabL.is (StabL.is StabL.nil)))))))))))))))))))))))))))))))
              case stepF =>
                refine StepsL.isA ?_ (StepsL.isA ?_ (StepsL.isA ?_ (StepsL.isA ?_ (StepsL.isA ?_ (StepsL.isA ?_ (StepsL.isA ?_ (StepsL.isA ?_ (StepsL.isA ?_ (StepsL.isA ?_ (StepsL.isA ?_ (StepsL.isA ?_ (StepsL.isA ?_ (StepsL.isA ?_ (StepsL.isA ?_ (StepsL.isA ?_ (StepsL.isA ?_ (StepsL.isA ?_ (StepsL.isA ?_ (StepsL.isA ?_ (StepsL.isA ?_ (StepsL.isA ?_ (StepsL.isA ?_ (StepsL.isA ?_ (StepsL.isA ?_ (StepsL.isA ?_ (StepsL.isA ?_ (StepsL.isA ?_ (StepsL.isA ?_ (StepsL.isA ?_ (StepsL.isA ?_ StepsL.nil))))))))))))))))))))))))))))))
                · -- 0
                  intro vs a W K ha hC hD hU hK
                  have r8 : a.tmps[8]? = some (.slice (some ⟨bS, oS, none⟩) sn kc) := by rw [ha, fillA_base0 (by kernel_rfl)]; exact tb8
                  clear ha hU hD ha0
                  rw [if_pos (by rfl)]
                  go_simp
                  exact hK _ hC (Below.refl _ _)
                · -- 1
                  intro vs a W K ha hC hD hU hK
                  have r13 : a.tmps[13]? = some (.int .i64 ((0 : Nat) : Int)) := by rw [ha, fillA_base0 (by kernel_rfl)]; exact tb13
                  clear ha hU hD ha0
                  rw [if_pos (by rfl)]
                  go_simp
                  exact hK _ hC (Below.refl _ _)
                · -- 2
                  intro vs a W K ha hC hD hU hK
                  have r68 : a.tmps[68]? = some (vs 0) := by rw [ha]; exact fillA_get0 (j := 0) (by kernel_rfl) (by rw [hsz]; decide)
                  have q0 : vs 0 = .slice (some ⟨bS, oS, none⟩) sn kc := hD 0 (by simp [waits, Region.binds])
                  rw [q0] at r68
                  have r69 : a.tmps[69]? = some (vs 1) := by rw [ha]; exact fillA_get0 (j := 1) (by kernel_rfl) (by rw [hsz]; decide)
                  have q1 : vs 1 = .int .i64 ((0 : Nat) : Int) := hD 1 (by simp [waits, Region.binds])
                  rw [q1] at r69
                  clear ha hU hD ha0
                  rw [if_pos (by rfl)]
                  go_simp
                  exact hK _ hC (Below.refl _ _)
                · -- 3
                  intro vs a W K ha hC hD hU hK
                  have r70 : a.tmps[70]? = some (vs 2) := by rw [ha]; exact fillA_get0 (j := 2) (by kernel_rfl) (by rw [hsz]; decide)
                  have q2 : vs 2 = .pointer (some ⟨bS, oS + 0, none⟩) := hD 2 (by simp [waits, Region.binds])
                  rw [q2] at r70
                  clear ha hU hD ha0
                  rw [if_pos (by rfl)]
                  obtain ⟨kq1a, kq2a, kq3a, kq4a⟩ := kq.out W hC
                  have kz := kq0.out W hC
                  go_simp
                  exact hK _ hC (Below.refl _ _)
                · -- 4
                  intro vs a W K ha hC hD hU hK
                  have r71 : a.tmps[71]? = some (vs 3) := by rw [ha]; exact fillA_get0 (j := 3) (by kernel_rfl) (by rw [hsz]; decide)
                  have q3 : vs 3 = .int .i64 (xn1 : Int) := hD 3 (by simp [waits, Region.binds])
                  rw [q3] at r71
                  clear ha hU hD ha0
                  rw [if_pos (by rfl)]
                  go_simp
                  exact hK _ hC (Below.refl _ _)
                · -- 5
                  intro vs a W K ha hC hD hU hK
                  have r72 : a.tmps[72]? = some (vs 4) := by rw [ha]; exact fillA_get0 (j := 4) (by kernel_rfl) (by rw [hsz]; decide)
                  have q4 : vs 4 = .bool false := hD 4 (by simp [waits, Region.binds])
                  rw [q4] at r72
                  clear ha hU hD ha0
                  rw [if_pos (by rfl)]
                  go_simp
                  exact hK _ hC (Below.refl _ _)
                · -- 6
                  intro vs a W K ha hC hD hU hK
                  have r73 : a.tmps[73]? = some (vs 5) := by rw [ha]; exact fillA_get0 (j := 5) (by kernel_rfl) (by rw [hsz]; decide)
                  have q5 : vs 5 = .bool false := hD 5 (by simp [waits, Region.binds])
                  rw [q5] at r73
                  have r8 : a.tmps[8]? = some (.slice (some ⟨bS, oS, none⟩) sn kc) := by rw [ha, fillA_base0 (by kernel_rfl)]; exact tb8
                  clear ha hU hD ha0
                  rw [if_pos (by simp [Region.wanted, yielded, r73])]
                  go_simp
                  exact hK _ hC (Below.refl _ _)
                · -- 7
                  intro vs a W K ha hC hD hU hK
                  have r73 : a.tmps[73]? = some (vs 5) := by rw [ha]; exact fillA_get0 (j := 5) (by kernel_rfl) (by rw [hsz]; decide)
                  have q5 : vs 5 = .bool false := hD 5 (by simp [waits, Region.binds])
                  rw [q5] at r73
                  have r13 : a.tmps[13]? = some (.int .i64 ((0 : Nat) : Int)) := by rw [ha, fillA_base0 (by kernel_rfl)]; exact tb13
                  clear ha hU hD ha0
                  rw [if_pos (by simp [Region.wanted, yielded, r73])]
                  go_simp
                  exact hK _ hC (Below.refl _ _)
                · -- 8
                  intro vs a W K ha hC hD hU hK
                  have r73 : a.tmps[73]? = some (vs 5) := by rw [ha]; exact fillA_get0 (j := 5) (by kernel_rfl) (by rw [hsz]; decide)
                  have q5 : vs 5 = .bool false := hD 5 (by simp [waits, Region.binds])
                  rw [q5] at r73
                  have r74 : a.tmps[74]? = some (vs 6) := by rw [ha]; exact fillA_get0 (j := 6) (by kernel_rfl) (by rw [hsz]; decide)
                  have q6 : vs 6 = .slice (some ⟨bS, oS, none⟩) sn kc := hD 6 (by simp [waits, Region.binds])
                  rw [q6] at r74
                  have r75 : a.tmps[75]? = some (vs 7) := by rw [ha]; exact fillA_get0 (j := 7) (by kernel_rfl) (by rw [hsz]; decide)
                  have q7 : vs 7 = .int .i64 ((0 : Nat) : Int) := hD 7 (by simp [waits, Region.binds])
                  rw [q7] at r75
                  clear ha hU hD ha0
                  rw [if_pos (by simp [Region.wanted, yielded, r73])]
                  go_simp
                  exact hK _ hC (Below.refl _ _)
                · -- 9
                  intro vs a W K ha hC hD hU hK
                  have r73 : a.tmps[73]? = some (vs 5) := by rw [ha]; exact fillA_get0 (j := 5) (by kernel_rfl) (by rw [hsz]; decide)
                  have q5 : vs 5 = .bool false := hD 5 (by simp [waits, Region.binds])
                  rw [q5] at r73
                  have r76 : a.tmps[76]? = some (vs 8) := by rw [ha]; exact fillA_get0 (j := 8) (by kernel_rfl) (by rw [hsz]; decide)
                  have q8 : vs 8 = .pointer (some ⟨bS, oS + 0, none⟩) := hD 8 (by simp [waits, Region.binds])
                  rw [q8] at r76
                  clear ha hU hD ha0
                  rw [if_pos (by simp [Region.wanted, yielded, r73])]
                  obtain ⟨kq1a, kq2a, kq3a, kq4a⟩ := kq.out W hC
                  have kz := kq0.out W hC
                  go_simp
                  exact hK _ hC (Below.refl _ _)
                · -- 10
                  intro vs a W K ha hC hD hU hK
                  have r73 : a.tmps[73]? = some (vs 5) := by rw [ha]; exact fillA_get0 (j := 5) (by kernel_rfl) (by rw [hsz]; decide)
                  have q5 : vs 5 = .bool false := hD 5 (by simp [waits, Region.binds])
                  rw [q5] at r73
                  have r4 : a.tmps[4]? = some (.pointer (some ⟨w.heap.size + 1, 0, none⟩)) := by rw [ha, fillA_base0 (by kernel_rfl)]; exact tb4
                  clear ha hU hD ha0
                  rw [if_pos (by simp [Region.wanted, yielded, r73])]
                  go_simp
                  exact hK _ hC (Below.refl _ _)
                · -- 11
                  intro vs a W K ha hC hD hU hK
                  have r73 : a.tmps[73]? = some (vs 5) := by rw [ha]; exact fillA_get0 (j := 5) (by kernel_rfl) (by rw [hsz]; decide)
                  have q5 : vs 5 = .bool false := hD 5 (by simp [waits, Region.binds])
                  rw [q5] at r73
                  have r78 : a.tmps[78]? = some (vs 10) := by rw [ha]; exact fillA_get0 (j := 10) (by kernel_rfl) (by rw [hsz]; decide)
                  have q10 : vs 10 = .pointer (some ⟨w.heap.size + 1, 2, none⟩) := hD 10 (by simp [waits, Region.binds])
                  rw [q10] at r78
                  clear ha hU hD ha0
                  rw [if_pos (by simp [Region.wanted, yielded, r73])]
                  obtain ⟨kq1a, kq2a, kq3a, kq4a⟩ := kq.out W hC
                  have kz := kq0.out W hC
                  go_simp
                  exact hK _ hC (Below.refl _ _)
                · -- 12
                  intro vs a W K ha hC hD hU hK
                  have r73 : a.tmps[73]? = some (vs 5) := by rw [ha]; exact fillA_get0 (j := 5) (by kernel_rfl) (by rw [hsz]; decide)
                  have q5 : vs 5 = .bool false := hD 5 (by simp [waits, Region.binds])
                  rw [q5] at r73
                  have r79 : a.tmps[79]? = some (vs 11) := by rw [ha]; exact fillA_get0 (j := 11) (by kernel_rfl) (by rw [hsz]; decide)
                  have q11 : vs 11 = .slice (some ⟨bO, oO, none⟩) m od := hD 11 (by simp [waits, Region.binds])
                  rw [q11] at r79
                  clear ha hU hD ha0
                  rw [if_pos (by simp [Region.wanted, yielded, r73])]
                  go_simp
                  exact hK _ hC (Below.refl _ _)
                · -- 13
                  intro vs a W K ha hC hD hU hK
                  have r73 : a.tmps[73]? = some (vs 5) := by rw [ha]; exact fillA_get0 (j := 5) (by kernel_rfl) (by rw [hsz]; decide)
                  have q5 : vs 5 = .bool false := hD 5 (by simp [waits, Region.binds])
                  rw [q5] at r73
                  have r77 : a.tmps[77]? = some (vs 9) := by rw [ha]; exact fillA_get0 (j := 9) (by kernel_rfl) (by rw [hsz]; decide)
                  have q9 : vs 9 = .int .i64 (xn1 : Int) := hD 9 (by simp [waits, Region.binds])
                  rw [q9] at r77
                  have r80 : a.tmps[80]? = some (vs 12) := by rw [ha]; exact fillA_get0 (j := 12) (by kernel_rfl) (by rw [hsz]; decide)
                  have q12 : vs 12 = .int .i64 (m : Int) := hD 12 (by simp [waits, Region.binds])
                  rw [q12] at r80
                  clear ha hU hD ha0
                  rw [if_pos (by simp [Region.wanted, yielded, r73])]
                  go_simp
                  exact hK _ hC (Below.refl _ _)
                · -- 14
                  intro vs a W K ha hC hD hU hK
                  have r73 : a.tmps[73]? = some (vs 5) := by rw [ha]; exact fillA_get0 (j := 5) (by kernel_rfl) (by rw [hsz]; decide)
                  have q5 : vs 5 = .bool false := hD 5 (by simp [waits, Region.binds])
                  rw [q5] at r73
                  have r81 : a.tmps[81]? = some (vs 13) := by rw [ha]; exact fillA_get0 (j := 13) (by kernel_rfl) (by rw [hsz]; decide)
                  have q13 : vs 13 = .bool false := hD 13 (by simp [waits, Region.binds])
                  rw [q13] at r81
                  clear ha hU hD ha0
                  rw [if_pos (by rfl)]
                  go_simp
                  exact hK _ hC (Below.refl _ _)
                · -- 15
                  intro vs a W K ha hC hD hU hK
                  have r82 : a.tmps[82]? = some (vs 14) := by rw [ha]; exact fillA_get0 (j := 14) (by kernel_rfl) (by rw [hsz]; decide)
                  have q14 : vs 14 = .bool false := hD 14 (by simp [waits, Region.binds])
                  rw [q14] at r82
                  clear ha hU hD ha0
                  rw [if_pos (by rfl)]
                  go_simp
                  exact hK _ hC (Below.refl _ _)
                · -- 16
                  intro vs a W K ha hC hD hU hK
                  have r83 : a.tmps[83]? = some (vs 15) := by rw [ha]; exact fillA_get0 (j := 15) (by kernel_rfl) (by rw [hsz]; decide)
                  have q15 : vs 15 = .bool false := hD 15 (by simp [waits, Region.binds])
                  rw [q15] at r83
                  have r13 : a.tmps[13]? = some (.int .i64 ((0 : Nat) : Int)) := by rw [ha, fillA_base0 (by kernel_rfl)]; exact tb13
                  clear ha hU hD ha0
                  rw [if_pos (by simp [Region.wanted, yielded, r83])]
                  go_simp
                  exact hK _ hC (Below.refl _ _)
                · -- 17
                  intro vs a W K ha hC hD hU hK
                  have r83 : a.tmps[83]? = some (vs 15) := by rw [ha]; exact fillA_get0 (j := 15) (by kernel_rfl) (by rw [hsz]; decide)
                  have q15 : vs 15 = .bool false := hD 15 (by simp [waits, Region.binds])
                  rw [q15] at r83
                  have r84 : a.tmps[84]? = some (vs 16) := by rw [ha]; exact fillA_get0 (j := 16) (by kernel_rfl) (by rw [hsz]; decide)
                  have q16 : vs 16 = .int .i64 ((0 : Nat) : Int) := hD 16 (by simp [waits, Region.binds])
                  rw [q16] at r84
                  clear ha hU hD ha0
                  rw [if_pos (by simp [Region.wanted, yielded, r83])]
                  go_simp
                  exact hK _ hC (Below.refl _ _)
                · -- 18
                  intro vs a W K ha hC hD hU hK
                  have r83 : a.tmps[83]? = some (vs 15) := by rw [ha]; exact fillA_get0 (j := 15) (by kernel_rfl) (by rw [hsz]; decide)
                  have q15 : vs 15 = .bool false := hD 15 (by simp [waits, Region.binds])
                  rw [q15] at r83
                  have r85 : a.tmps[85]? = some (vs 17) := by rw [ha]; exact fillA_get0 (j := 17) (by kernel_rfl) (by rw [hsz]; decide)
                  have q17 : vs 17 = .bool false := hD 17 (by simp [waits, Region.binds])
                  rw [q17] at r85
                  clear ha hU hD ha0
                  rw [if_pos (by simp [Region.wanted, yielded, r83])]
                  go_simp
                  exact hK _ hC (Below.refl _ _)
                · -- 19
                  intro vs a W K ha hC hD hU hK
                  have r86 : a.tmps[86]? = some (vs 18) := by rw [ha]; exact fillA_get0 (j := 18) (by kernel_rfl) (by rw [hsz]; decide)
                  have q18 : vs 18 = .bool false := hD 18 (by simp [waits, Region.binds])
                  rw [q18] at r86
                  clear ha hU hD ha0
                  rw [if_neg (by simp [Region.wanted, yielded, r86, undef])]
                · -- 20
                  intro vs a W K ha hC hD hU hK
                  have r86 : a.tmps[86]? = some (vs 18) := by rw [ha]; exact fillA_get0 (j := 18) (by kernel_rfl) (by rw [hsz]; decide)
                  have q18 : vs 18 = .bool false := hD 18 (by simp [waits, Region.binds])
                  rw [q18] at r86
                  clear ha hU hD ha0
                  rw [if_neg (by simp [Region.wanted, yielded, r86, undef])]
                · -- 21
                  intro vs a W K ha hC hD hU hK
                  have r86 : a.tmps[86]? = some (vs 18) := by rw [ha]; exact fillA_get0 (j := 18) (by kernel_rfl) (by rw [hsz]; decide)
                  have q18 : vs 18 = .bool false := hD 18 (by simp [waits, Region.binds])
                  rw [q18] at r86
                  clear ha hU hD ha0
                  rw [if_neg (by simp [Region.wanted, yielded, r86, undef])]
                · -- 22
                  intro vs a W K ha hC hD hU hK
                  have r86 : a.tmps[86]? = some (vs 18) := by rw [ha]; exact fillA_get0 (j := 18) (by kernel_rfl) (by rw [hsz]; decide)
                  have q18 : vs 18 = .bool false := hD 18 (by simp [waits, Region.binds])
                  rw [q18] at r86
                  clear ha hU hD ha0
                  rw [if_neg (by simp [Region.wanted, yielded, r86, undef])]
                · -- 23
                  intro vs a W K ha hC hD hU hK
                  have r86 : a.tmps[86]? = some (vs 18) := by rw [ha]; exact fillA_get0 (j := 18) (by kernel_rfl) (by rw [hsz]; decide)
                  have q18 : vs 18 = .bool false := hD 18 (by simp [waits, Region.binds])
                  rw [q18] at r86
                  clear ha hU hD ha0
                  rw [if_neg (by simp [Region.wanted, yielded, r86, undef])]
                · -- 24
                  intro vs a W K ha hC hD hU hK
                  have r86 : a.tmps[86]? = some (vs 18) := by rw [ha]; exact fillA_get0 (j := 18) (by kernel_rfl) (by rw [hsz]; decide)
                  have q18 : vs 18 = .bool false := hD 18 (by simp [waits, Region.binds])
                  rw [q18] at r86
                  clear ha hU hD ha0
                  rw [if_neg (by simp [Region.wanted, yielded, r86, undef])]
                · -- 25
                  intro vs a W K ha hC hD hU hK
                  have r86 : a.tmps[86]? = some (vs 18) := by rw [ha]; exact fillA_get0 (j := 18) (by kernel_rfl) (by rw [hsz]; decide)
                  have q18 : vs 18 = .bool false := hD 18 (by simp [waits, Region.binds])
                  rw [q18] at r86
                  clear ha hU hD ha0
                  rw [if_neg (by simp [Region.wanted, yielded, r86, undef])]
                · -- 26
                  intro vs a W K ha hC hD hU hK
                  have r86 : a.tmps[86]? = some (vs 18) := by rw [ha]; exact fillA_get0 (j := 18) (by kernel_rfl) (by rw [hsz]; decide)
                  have q18 : vs 18 = .bool false := hD 18 (by simp [waits, Region.binds])
                  rw [q18] at r86
                  clear ha hU hD ha0
                  rw [if_neg (by simp [Region.wanted, yielded, r86, undef])]
                · -- 27
                  intro vs a W K ha hC hD hU hK
                  have r86 : a.tmps[86]? = some (vs 18) := by rw [ha]; exact fillA_get0 (j := 18) (by kernel_rfl) (by rw [hsz]; decide)
                  have q18 : vs 18 = .bool false := hD 18 (by simp [waits, Region.binds])
                  rw [q18] at r86
                  clear ha hU hD ha0
                  rw [if_neg (by simp [Region.wanted, yielded, r86, undef])]
                · -- 28
                  intro vs a W K ha hC hD hU hK
                  have r86 : a.tmps[86]? = some (vs 18) := by rw [ha]; exact fillA_get0 (j := 18) (by kernel_rfl) (by rw [hsz]; decide)
                  have q18 : vs 18 = .bool false := hD 18 (by simp [waits, Region.binds])
                  rw [q18] at r86
                  clear ha hU hD ha0
                  rw [if_neg (by simp [Region.wanted, yielded, r86, undef])]
                · -- 29
                  intro vs a W K ha hC hD hU hK
                  have r83 : a.tmps[83]? = some (vs 15) := by rw [ha]; exact fillA_get0 (j := 15) (by kernel_rfl) (by rw [hsz]; decide)
                  have q15 : vs 15 = .bool false := hD 15 (by simp [waits, Region.binds])
                  rw [q15] at r83
                  have r86 : a.tmps[86]? = some (vs 18) := by rw [ha]; exact fillA_get0 (j := 18) (by kernel_rfl) (by rw [hsz]; decide)
                  have q18 : vs 18 = .bool false := hD 18 (by simp [waits, Region.binds])
                  rw [q18] at r86
                  have r96 : a.tmps[96]? = some (vs 28) := by rw [ha]; exact fillA_get0 (j := 28) (by kernel_rfl) (by rw [hsz]; decide)
                  have q28 : vs 28 = undef := hD 28 (by simp [waits, Region.binds])
                  rw [q28] at r96
                  clear ha hU hD ha0
                  rw [if_pos (by simp [Region.wanted, yielded, r83])]
                  go_simp
                  exact hK _ hC (Below.refl _ _)
                · -- 30
                  intro vs a W K ha hC hD hU hK
                  have r83 : a.tmps[83]? = some (vs 15) := by rw [ha]; exact fillA_get0 (j := 15) (by kernel_rfl) (by rw [hsz]; decide)
                  have q15 : vs 15 = .bool false := hD 15 (by simp [waits, Region.binds])
                  rw [q15] at r83
                  have r97 : a.tmps[97]? = some (vs 29) := by rw [ha]; exact fillA_get0 (j := 29) (by kernel_rfl) (by rw [hsz]; decide)
                  have q29 : vs 29 = .bool false := hD 29 (by simp [waits, Region.binds])
                  rw [q29] at r97
                  clear ha hU hD ha0
                  rw [if_pos (by rfl)]
                  go_simp
                  exact hK _ hC (Below.refl _ _)
              case finF =>
                refine Fin1.none (Nat.le_refl _) ?_
                intro vs W a1 hC hE ha
                have eL : vs 30 = .bool false := hE 30 (by simp)
                rw [ha, ha0]
                clear ha ha0 hsz tb4 tb8 tb13
                simp only [fillA, Act.put, List.setIfInBounds_toArray, List.set_cons_zero, List.set_cons_succ, Nat.zero_add, Nat.reduceAdd, eL]
                obtain ⟨u0, hu0⟩ : ∃ v0, vs 0 = v0 := ⟨_, rfl⟩
                obtain ⟨u1, hu1⟩ : ∃ v0, vs 1 = v0 := ⟨_, rfl⟩
                obtain ⟨u2, hu2⟩ : ∃ v0, vs 2 = v0 := ⟨_, rfl⟩
                obtain ⟨u3, hu3⟩ : ∃ v0, vs 3 = v0 := ⟨_, rfl⟩
                obtain ⟨u4, hu4⟩ : ∃ v0, vs 4 = v0 := ⟨_, rfl⟩
                obtain ⟨u5, hu5⟩ : ∃ v0, vs 5 = v0 := ⟨_, rfl⟩
                obtain ⟨u6, hu6⟩ : ∃ v0, vs 6 = v0 := ⟨_, rfl⟩
                obtain ⟨u7, hu7⟩ : ∃ v0, vs 7 = v0 := ⟨_, rfl⟩
                obtain ⟨u8, hu8⟩ : ∃ v0, vs 8 = v0 := ⟨_, rfl⟩
                obtain ⟨u9, hu9⟩ : ∃ v0, vs 9 = v0 := ⟨_, rfl⟩
                obtain ⟨u10, hu10⟩ : ∃ v0, vs 10 = v0 := ⟨_, rfl⟩
                obtain ⟨u11, hu11⟩ : ∃ v0, vs 11 = v0 := ⟨_, rfl⟩
                obtain ⟨u12, hu12⟩ : ∃ v0, vs 12 = v0 := ⟨_, rfl⟩
                obtain ⟨u13, hu13⟩ : ∃ v0, vs 13 = v0 := ⟨_, rfl⟩
                obtain ⟨u14, hu14⟩ : ∃ v0, vs 14 = v0 := ⟨_, rfl⟩
                obtain ⟨u15, hu15⟩ : ∃ v0, vs 15 = v0 := ⟨_, rfl⟩
                obtain ⟨u16, hu16⟩ : ∃ v0, vs 16 = v0 := ⟨_, rfl⟩
                obtain ⟨u17, hu17⟩ : ∃ v0, vs 17 = v0 := ⟨_, rfl⟩
                obtain ⟨u18, hu18⟩ : ∃ v0, vs 18 = v0 := ⟨_, rfl⟩
                obtain ⟨u19, hu19⟩ : ∃ v0, vs 19 = v0 := ⟨_, rfl⟩
                obtain ⟨u20, hu20⟩ : ∃ v0, vs 20 = v0 := ⟨_, rfl⟩
                obtain ⟨u21, hu21⟩ : ∃ v0, vs 21 = v0 := ⟨_, rfl⟩
                obtain ⟨u22, hu22⟩ : ∃ v0, vs 22 = v0 := ⟨_, rfl⟩
                obtain ⟨u23, hu23⟩ : ∃ v0, vs 23 = v0 := ⟨_, rfl⟩
                obtain ⟨u24, hu24⟩ : ∃ v0, vs 24 = v0 := ⟨_, rfl⟩
                obtain ⟨u25, hu25⟩ : ∃ v0, vs 25 = v0 := ⟨_, rfl⟩
                obtain ⟨u26, hu26⟩ : ∃ v0, vs 26 = v0 := ⟨_, rfl⟩
                obtain ⟨u27, hu27⟩ : ∃ v0, vs 27 = v0 := ⟨_, rfl⟩
                obtain ⟨u28, hu28⟩ : ∃ v0, vs 28 = v0 := ⟨_, rfl⟩
                obtain ⟨u29, hu29⟩ : ∃ v0, vs 29 = v0 := ⟨_, rfl⟩
                rw [hu0, hu1, hu2, hu3, hu4, hu5, hu6, hu7, hu8, hu9, hu10, hu11, hu12, hu13, hu14, hu15, hu16, hu17, hu18, hu19, hu20, hu21, hu22, hu23, hu24, hu25, hu26, hu27, hu28, hu29]
                clear hu0 hu1 hu2 hu3 hu4 hu5 hu6 hu7 hu8 hu9 hu10 hu11 hu12 hu13 hu14 hu15 hu16 hu17 hu18 hu19 hu20 hu21 hu22 hu23 hu24 hu25 hu26 hu27 hu28 hu29
                have HWA : Hid (Below wr.heap.size wr W) := hC
                obtain ⟨WA, hWA⟩ : ∃ V, V = W := ⟨_, rfl⟩
                subst hWA
                clear hE eL hC
                go_wp2_with fail
                refine wp_frameT ?_
                intro a0 ha0
                have tb4 : a0.tmps[4]? = some (.pointer (some ⟨w.heap.size + 1, 0, none⟩)) := by rw [ha0]; kernel_rfl
                have tb8 : a0.tmps[8]? = some (.slice (some ⟨bS, oS, none⟩) sn kc) := by rw [ha0]; kernel_rfl
                have tb13 : a0.tmps[13]? = some (.int .i64 ((0 : Nat) : Int)) := by rw [ha0]; kernel_rfl
                have hsz : a0.tmps.size = 165 := by rw [ha0]; kernel_rfl
                refine wp_region_list2 (fun W => Below WA.heap.size WA W) (fun w w' => Below w.heap.size w w')
                  [isV (.slice An 0 cap), isV (.pointer (some ⟨w.heap.size + 1, 2, none⟩)), isV (.slice (some ⟨bO, oO, none⟩) m od), isV (.slice (some ⟨bS, oS, none⟩) sn kc), isV (.int .i64 ((0 : Nat) : Int)), isV (.pointer (some ⟨bS, oS + 0, none⟩)), isV (.int .i64 (xn1 : Int)), isV (.pointer (some ⟨bO, oO + xn1 * 2, none⟩)), isV (.agg #[.int .i64 pa, .int .i64 pz]), IsSp (pa, pz)]
                  (by kernel_rfl) (by kernel_rfl) (by kernel_rfl) (by rfl) (by rfl) (by rfl) (by rfl) (by rfl) (Below.refl _ _).drew ?stabC ?stepC ?finC
                case stabC => exact (StabL.is (StabL.is (StabL.is (StabL.is (StabL.is (StabL.is (StabL.is (StabL.is (StabL.is (StabL.cons (fun v W V hC hX h => h.bl hX) StabL.nil))))))))))
                case stepC =>
                  refine StepsL.isA ?_ (StepsL.isA ?_ (StepsL.isA ?_ (StepsL.isA ?_ (StepsL.isA ?_ (StepsL.isA ?_ (StepsL.isA ?_ (StepsL.isA ?_ (StepsL.isA ?_ (StepsL.consA ?_ StepsL.nil)))))))))
                  · -- 0
                    intro vs a W K ha hC hD hU hK
                    have r11 : a.tmps[11]? = some (vs 11) := by rw [ha]; exact fillA_get0 (j := 11) (by kernel_rfl) (by rw [hsz]; decide)
                    have q11 : vs 11 = .slice An 0 cap := (hU 11 _ rfl (by simp [waits, Region.binds])).trans (by rw [ha0]; kernel_rfl)
                    rw [q11] at r11
                    clear ha hU hD ha0
                    rw [if_pos (by rfl)]
                    go_simp
                    exact hK _ hC (Below.refl _ _)
                  · -- 1
                    intro vs a W K ha hC hD hU hK
                    have r4 : a.tmps[4]? = some (.pointer (some ⟨w.heap.size + 1, 0, none⟩)) := by rw [ha, fillA_base0 (by kernel_rfl)]; exact tb4
                    clear ha hU hD ha0
                    rw [if_pos (by rfl)]
                    go_simp
                    exact hK _ hC (Below.refl _ _)
                  · -- 2
                    intro vs a W K ha hC hD hU hK
                    have r100 : a.tmps[100]? = some (vs 1) := by rw [ha]; exact fillA_get0 (j := 1) (by kernel_rfl) (by rw [hsz]; decide)
                    have q1 : vs 1 = .pointer (some ⟨w.heap.size + 1, 2, none⟩) := hD 1 (by simp [waits, Region.binds])
                    rw [q1] at r100
                    clear ha hU hD ha0
                    rw [if_pos (by rfl)]
                    obtain ⟨kq1, kq2, kq3, kq4, kz⟩ : _ ∧ _ ∧ _ ∧ _ ∧ _ := (⟨(kq.out W (bl_call HWA.out hC (Nat.le_refl _))).1, (kq.out W (bl_call HWA.out hC (Nat.le_refl _))).2.1, (kq.out W (bl_call HWA.out hC (Nat.le_refl _))).2.2.1, (kq.out W (bl_call HWA.out hC (Nat.le_refl _))).2.2.2, kq0.out W (bl_call HWA.out hC (Nat.le_refl _))⟩)
                    go_simp
                    exact hK _ hC (Below.refl _ _)
                  · -- 3
                    intro vs a W K ha hC hD hU hK
                    have r8 : a.tmps[8]? = some (.slice (some ⟨bS, oS, none⟩) sn kc) := by rw [ha, fillA_base0 (by kernel_rfl)]; exact tb8
                    clear ha hU hD ha0
                    rw [if_pos (by rfl)]
                    go_simp
                    exact hK _ hC (Below.refl _ _)
                  · -- 4
                    intro vs a W K ha hC hD hU hK
                    have r13 : a.tmps[13]? = some (.int .i64 ((0 : Nat) : Int)) := by rw [ha, fillA_base0 (by kernel_rfl)]; exact tb13
                    clear ha hU hD ha0
                    rw [if_pos (by rfl)]
                    go_simp
                    exact hK _ hC (Below.refl _ _)
                  · -- 5
                    intro vs a W K ha hC hD hU hK
                    have r102 : a.tmps[102]? = some (vs 3) := by rw [ha]; exact fillA_get0 (j := 3) (by kernel_rfl) (by rw [hsz]; decide)
                    have q3 : vs 3 = .slice (some ⟨bS, oS, none⟩) sn kc := hD 3 (by simp [waits, Region.binds])
                    rw [q3] at r102
                    have r103 : a.tmps[103]? = some (vs 4) := by rw [ha]; exact fillA_get0 (j := 4) (by kernel_rfl) (by rw [hsz]; decide)
                    have q4 : vs 4 = .int .i64 ((0 : Nat) : Int) := hD 4 (by simp [waits, Region.binds])
                    rw [q4] at r103
                    clear ha hU hD ha0
                    rw [if_pos (by rfl)]
                    go_simp
                    exact hK _ hC (Below.refl _ _)
                  · -- 6
                    intro vs a W K ha hC hD hU hK
                    have r104 : a.tmps[104]? = some (vs 5) := by rw [ha]; exact fillA_get0 (j := 5) (by kernel_rfl) (by rw [hsz]; decide)
                    have q5 : vs 5 = .pointer (some ⟨bS, oS + 0, none⟩) := hD 5 (by simp [waits, Region.binds])
                    rw [q5] at r104
                    clear ha hU hD ha0
                    rw [if_pos (by rfl)]
                    obtain ⟨kq1, kq2, kq3, kq4, kz⟩ : _ ∧ _ ∧ _ ∧ _ ∧ _ := (⟨(kq.out W (bl_call HWA.out hC (Nat.le_refl _))).1, (kq.out W (bl_call HWA.out hC (Nat.le_refl _))).2.1, (kq.out W (bl_call HWA.out hC (Nat.le_refl _))).2.2.1, (kq.out W (bl_call HWA.out hC (Nat.le_refl _))).2.2.2, kq0.out W (bl_call HWA.out hC (Nat.le_refl _))⟩)
                    go_simp
                    exact hK _ hC (Below.refl _ _)
                  · -- 7
                    intro vs a W K ha hC hD hU hK
                    have r101 : a.tmps[101]? = some (vs 2) := by rw [ha]; exact fillA_get0 (j := 2) (by kernel_rfl) (by rw [hsz]; decide)
                    have q2 : vs 2 = .slice (some ⟨bO, oO, none⟩) m od := hD 2 (by simp [waits, Region.binds])
                    rw [q2] at r101
                    have r105 : a.tmps[105]? = some (vs 6) := by rw [ha]; exact fillA_get0 (j := 6) (by kernel_rfl) (by rw [hsz]; decide)
                    have q6 : vs 6 = .int .i64 (xn1 : Int) := hD 6 (by simp [waits, Region.binds])
                    rw [q6] at r105
                    clear ha hU hD ha0
                    rw [if_pos (by rfl)]
                    go_simp
                    exact hK _ hC (Below.refl _ _)
                  · -- 8
                    intro vs a W K ha hC hD hU hK
                    have r106 : a.tmps[106]? = some (vs 7) := by rw [ha]; exact fillA_get0 (j := 7) (by kernel_rfl) (by rw [hsz]; decide)
                    have q7 : vs 7 = .pointer (some ⟨bO, oO + xn1 * 2, none⟩) := hD 7 (by simp [waits, Region.binds])
                    rw [q7] at r106
                    clear ha hU hD ha0
                    rw [if_pos (by rfl)]
                    obtain ⟨kq1, kq2, kq3, kq4, kz⟩ : _ ∧ _ ∧ _ ∧ _ ∧ _ := (⟨(kq.out W (bl_call HWA.out hC (Nat.le_refl _))).1, (kq.out W (bl_call HWA.out hC (Nat.le_refl _))).2.1, (kq.out W (bl_call HWA.out hC (Nat.le_refl _))).2.2.1, (kq.out W (bl_call HWA.out hC (Nat.le_refl _))).2.2.2, kq0.out W (bl_call HWA.out hC (Nat.le_refl _))⟩)
                    go_simp
                    exact hK _ hC (Below.refl _ _)
                  · -- 9
                    intro vs a W K ha hC hD hU hK
                    have r107 : a.tmps[107]? = some (vs 8) := by rw [ha]; exact fillA_get0 (j := 8) (by kernel_rfl) (by rw [hsz]; decide)
                    have q8 : vs 8 = .agg #[.int .i64 pa, .int .i64 pz] := hD 8 (by simp [waits, Region.binds])
                    rw [q8] at r107
                    clear ha hU hD ha0
                    rw [if_pos (by rfl)]
                    go_simp
                    exact hK _ _ (bl_alloc hC _ (Nat.le_refl _)) (bl_alloc (Below.refl _ _) _ (Nat.le_refl _)) ⟨_, rfl, Blk.new _ _ _ rfl⟩
                case finC =>
                  intro vs W hC hE hU
                  rw [ha0]
                  clear hU hsz tb4 tb8 tb13
                  have e0 : vs 0 = .slice An 0 cap := hE 0 (by simp)
                  have E9 : IsSp (pa, pz) (vs 9) W := hE 9 (by simp)
                  simp only [fillA, Act.put, List.setIfInBounds_toArray, List.set_cons_zero, List.set_cons_succ, Nat.zero_add, Nat.reduceAdd, e0]
                  obtain ⟨g25, h25, hB25⟩ := E9
                  rw [h25]
                  obtain ⟨u1, hu1⟩ : ∃ v0, vs 1 = v0 := ⟨_, rfl⟩
                  obtain ⟨u2, hu2⟩ : ∃ v0, vs 2 = v0 := ⟨_, rfl⟩
                  obtain ⟨u3, hu3⟩ : ∃ v0, vs 3 = v0 := ⟨_, rfl⟩
                  obtain ⟨u4, hu4⟩ : ∃ v0, vs 4 = v0 := ⟨_, rfl⟩
                  obtain ⟨u5, hu5⟩ : ∃ v0, vs 5 = v0 := ⟨_, rfl⟩
                  obtain ⟨u6, hu6⟩ : ∃ v0, vs 6 = v0 := ⟨_, rfl⟩
                  obtain ⟨u7, hu7⟩ : ∃ v0, vs 7 = v0 := ⟨_, rfl⟩
                  obtain ⟨u8, hu8⟩ : ∃ v0, vs 8 = v0 := ⟨_, rfl⟩
                  rw [hu1, hu2, hu3, hu4, hu5, hu6, hu7, hu8]
                  clear hu1 hu2 hu3 hu4 hu5 hu6 hu7 hu8
                  clear hE e0 h25
                  obtain ⟨A2, cap2, w2, hrun, hO2, hg2, hat⟩ := run_append_one W 72 72 PairR.good V6.heap.size 23 iP _ 16 Try.underlying72 hiP hzP0 hzP1 hzP2 rfl (by omega) (.slice An 0 cap) (pickP p (sk.take 0)) (pa, pz) (HO.out.below PairR.good (bl_call HWA.out hC (Nat.le_refl _))) ⟨g25, 0, none⟩ 1 [.int .i64 pa, .int .i64 pz] rfl (fun j v hv => blk_newsP hB25 hv) (by rw [Hlen.out]; simp only [maxLen]; omega) (by rw [Hlen.out]; omega) (by have := hC.size; have := HWA.out.size; have := HBr.out.size; omega) (fun h => h)
                  have hB2 : Below V6.heap.size V6 w2 := bl_grown (bl_call HBr.out (bl_call HWA.out hC (Nat.le_refl _)) (Nat.le_refl _)) (HO.out.below PairR.good (bl_call HWA.out hC (Nat.le_refl _))) hg2 (Nat.le_refl _) (Nat.le_refl _)
                  rw [Hlen.out] at hrun hO2
                  rw [← HNX.out] at hO2
                  refine wp_append_of_run rfl rfl rfl hrun ?_
                  clear hrun hg2 hat hC hB25 kq
                  have HO2 := Lib.hid hO2
                  have HB2 := Lib.hid hB2
                  clear hO2 hB2
                  go_simp
                  go_wp2
                  go_roundw
                  case rel => exact ⟨0 + 1, cap2, _, by omega, by go_num, rfl, HB2.out, HO2.out⟩
                  case measure => simp [intOf]; omega
            · obtain ⟨k1, hk1⟩ : ∃ k1, k1 + 1 = k := ⟨k - 1, by omega⟩
              obtain ⟨bS2, oS2, x2, hAe, hcS2, HxS2⟩ := Ints.get (HD6.out wr HBr.out) (k := k1) (by omega)
              obtain ⟨rfl, rfl⟩ : bS = bS2 ∧ oS = oS2 := by injection hAe with hAe; injection hAe with e1 e2; exact ⟨e1, e2⟩
              have hasc := set_asc HSET.out HxS2.out (by rw [hk1]; exact HxS.out)
              have hle : ¬ (xn1 : Int) ≤ x2 := by omega
              have hled : decide ((xn1 : Int) ≤ x2) = false := decide_eq_false hle
              have hwk : IntKind.i64.wrap ((k : Int) - 1) = (k1 : Int) := by rw [IntKind.wrap_i64]; omega
              have hk1i : (k1 : Int) < sn := by omega
              have hkpi : (0 : Int) < (k : Int) := by omega
              have kq1 : Hid (∀ V, Below wr.heap.size wr V → V.cell? ⟨bS, oS + k1, none⟩ = some (.int .i64 x2)) := fun V hb => getc hb hcS2
              clear hAe hk1 hasc hcA hcZ
              go_wp2_with fail
              clear hcS y2 hcS2
              refine wp_frameT ?_
              intro a0 ha0
              have tb4 : a0.tmps[4]? = some (.pointer (some ⟨w.heap.size + 1, 0, none⟩)) := by rw [ha0]; kernel_rfl
              have tb8 : a0.tmps[8]? = some (.slice (some ⟨bS, oS, none⟩) sn kc) := by rw [ha0]; kernel_rfl
              have tb13 : a0.tmps[13]? = some (.int .i64 (k : Int)) := by rw [ha0]; kernel_rfl
              have hsz : a0.tmps.size = 165 := by rw [ha0]; kernel_rfl
              refine wp_region_list (fun W => Below wr.heap.size wr W) (fun w w' => Below w.heap.size w w')
                [isV (.slice (some ⟨bS, oS, none⟩) sn kc), isV (.int .i64 (k : Int)), isV (.pointer (some ⟨bS, oS + k, none⟩)), isV (.int .i64 (xn1 : Int)), isV (.bool false), isV (.bool false), isV (.slice (some ⟨bS, oS, none⟩) sn kc), isV (.int .i64 (k : Int)), isV (.pointer (some ⟨bS, oS + k, none⟩)), isV (.int .i64 (xn1 : Int)), isV (.pointer (some ⟨w.heap.size + 1, 2, none⟩)), isV (.slice (some ⟨bO, oO, none⟩) m od), isV (.int .i64 (m : Int)), isV (.bool false), isV (.bool false), isV (.bool false), isV (.int .i64 (k : Int)), isV (.bool true), isV (.bool true), isV (.slice (some ⟨bS, oS, none⟩) sn kc), isV (.int .i64 (k : Int)), isV (.pointer (some ⟨bS, oS + k, none⟩)), isV (.int .i64 (xn1 : Int)), isV (.slice (some ⟨bS, oS, none⟩) sn kc), isV (.int .i64 (k : Int)), isV (.int .i64 (k1 : Int)), isV (.pointer (some ⟨bS, oS + k1, none⟩)), isV (.int .i64 x2), isV (.bool false), isV (.bool false), isV (.bool false)]
                (by kernel_rfl) (by kernel_rfl) (by kernel_rfl) (by simp) (by simp) (Below.refl _ _).drew ?stabG ?stepG ?finG
              case stabG => exact (StabL.is (StabL.is (StabL.is (StabL.is (StabL.is (StabL.is (StabL.is (StabL.is (StabL.is (StabL.is (StabL.is (StabL.is (StabL.is (StabL.is (StabL.is (StabL.is (StabL.is (StabL.is (StabL.is (StabL.is (StabL.is (StabL.is (StabL.is (StabL.is (StabL.is (StabL.is (StabL.is (StabL.is (StabL.is (StabL.is (StabL.is StabL.nil)))))))))))))))))))))))))))))))
              case stepG =>
                refine StepsL.isA ?_ (StepsL.isA ?_ (StepsL.isA ?_ (StepsL.isA ?_ (StepsL.isA ?_ (StepsL.isA ?_ (StepsL.isA ?_ (StepsL.isA ?_ (StepsL.isA ?_ (StepsL.isA ?_ (StepsL.isA ?_ (StepsL.isA ?_ (StepsL.isA ?_ (StepsL.isA ?_ (StepsL.isA ?_ (StepsL.isA ?_ (StepsL.isA ?_ (StepsL.isA ?_ (StepsL.isA ?_ (StepsL.isA ?_ (StepsL.isA ?_ (StepsL.isA ?_ (StepsL.isA ?_ (StepsL.isA ?_ (StepsL.isA ?_ (StepsL.isA ?_ (StepsL.isA ?_ (StepsL.isA ?_ (StepsL.isA ?_ (StepsL.isA ?_ (StepsL.isA ?_ StepsL.nil))))))))))))))))))))))))))))))
                · -- 0
                  intro vs a W K ha hC hD hU hK
                  have r8 : a.tmps[8]? = some (.slice (some ⟨bS, oS, none⟩) sn kc) := by rw [ha, fillA_base0 (by kernel_rfl)]; exact tb8
                  clear ha hU hD ha0
                  rw [if_pos (by rfl)]
                  go_simp
                  exact hK _ hC (Below.refl _ _)
                · -- 1
                  intro vs a W K ha hC hD hU hK
                  have r13 : a.tmps[13]? = some (.int .i64 (k : Int)) := by rw [ha, fillA_base0 (by kernel_rfl)]; exact tb13
                  clear ha hU hD ha0
                  rw [if_pos (by rfl)]
                  go_simp
                  exact hK _ hC (Below.refl _ _)
                · -- 2
                  intro vs a W K ha hC hD hU hK
                  have r68 : a.tmps[68]? = some (vs 0) := by rw [ha]; exact fillA_get0 (j := 0) (by kernel_rfl) (by rw [hsz]; decide)
                  have q0 : vs 0 = .slice (some ⟨bS, oS, none⟩) sn kc := hD 0 (by simp [waits, Region.binds])
                  rw [q0] at r68
                  have r69 : a.tmps[69]? = some (vs 1) := by rw [ha]; exact fillA_get0 (j := 1) (by kernel_rfl) (by rw [hsz]; decide)
                  have q1 : vs 1 = .int .i64 (k : Int) := hD 1 (by simp [waits, Region.binds])
                  rw [q1] at r69
                  clear ha hU hD ha0
                  rw [if_pos (by rfl)]
                  go_simp
                  exact hK _ hC (Below.refl _ _)
                · -- 3
                  intro vs a W K ha hC hD hU hK
                  have r70 : a.tmps[70]? = some (vs 2) := by rw [ha]; exact fillA_get0 (j := 2) (by kernel_rfl) (by rw [hsz]; decide)
                  have q2 : vs 2 = .pointer (some ⟨bS, oS + k, none⟩) := hD 2 (by simp [waits, Region.binds])
                  rw [q2] at r70
                  clear ha hU hD ha0
                  rw [if_pos (by rfl)]
                  obtain ⟨kq1a, kq2a, kq3a, kq4a⟩ := kq.out W hC
                  have kz := kq1.out W hC
                  go_simp
                  exact hK _ hC (Below.refl _ _)
                · -- 4
                  intro vs a W K ha hC hD hU hK
                  have r71 : a.tmps[71]? = some (vs 3) := by rw [ha]; exact fillA_get0 (j := 3) (by kernel_rfl) (by rw [hsz]; decide)
                  have q3 : vs 3 = .int .i64 (xn1 : Int) := hD 3 (by simp [waits, Region.binds])
                  rw [q3] at r71
                  clear ha hU hD ha0
                  rw [if_pos (by rfl)]
                  go_simp
                  exact hK _ hC (Below.refl _ _)
                · -- 5
                  intro vs a W K ha hC hD hU hK
                  have r72 : a.tmps[72]? = some (vs 4) := by rw [ha]; exact fillA_get0 (j := 4) (by kernel_rfl) (by rw [hsz]; decide)
                  have q4 : vs 4 = .bool false := hD 4 (by simp [waits, Region.binds])
                  rw [q4] at r72
                  clear ha hU hD ha0
                  rw [if_pos (by rfl)]
                  go_simp
                  exact hK _ hC (Below.refl _ _)
                · -- 6
                  intro vs a W K ha hC hD hU hK
                  have r73 : a.tmps[73]? = some (vs 5) := by rw [ha]; exact fillA_get0 (j := 5) (by kernel_rfl) (by rw [hsz]; decide)
                  have q5 : vs 5 = .bool false := hD 5 (by simp [waits, Region.binds])
                  rw [q5] at r73
                  have r8 : a.tmps[8]? = some (.slice (some ⟨bS, oS, none⟩) sn kc) := by rw [ha, fillA_base0 (by kernel_rfl)]; exact tb8
                  clear ha hU hD ha0
                  rw [if_pos (by simp [Region.wanted, yielded, r73])]
                  go_simp
                  exact hK _ hC (Below.refl _ _)
                · -- 7
                  intro vs a W K ha hC hD hU hK
                  have r73 : a.tmps[73]? = some (vs 5) := by rw [ha]; exact fillA_get0 (j := 5) (by kernel_rfl) (by rw [hsz]; decide)
                  have q5 : vs 5 = .bool false := hD 5 (by simp [waits, Region.binds])
                  rw [q5] at r73
                  have r13 : a.tmps[13]? = some (.int .i64 (k : Int)) := by rw [ha, fillA_base0 (by kernel_rfl)]; exact tb13
                  clear ha hU hD ha0
                  rw [if_pos (by simp [Region.wanted, yielded, r73])]
                  go_simp
                  exact hK _ hC (Below.refl _ _)
                · -- 8
                  intro vs a W K ha hC hD hU hK
                  have r73 : a.tmps[73]? = some (vs 5) := by rw [ha]; exact fillA_get0 (j := 5) (by kernel_rfl) (by rw [hsz]; decide)
                  have q5 : vs 5 = .bool false := hD 5 (by simp [waits, Region.binds])
                  rw [q5] at r73
                  have r74 : a.tmps[74]? = some (vs 6) := by rw [ha]; exact fillA_get0 (j := 6) (by kernel_rfl) (by rw [hsz]; decide)
                  have q6 : vs 6 = .slice (some ⟨bS, oS, none⟩) sn kc := hD 6 (by simp [waits, Region.binds])
                  rw [q6] at r74
                  have r75 : a.tmps[75]? = some (vs 7) := by rw [ha]; exact fillA_get0 (j := 7) (by kernel_rfl) (by rw [hsz]; decide)
                  have q7 : vs 7 = .int .i64 (k : Int) := hD 7 (by simp [waits, Region.binds])
                  rw [q7] at r75
                  clear ha hU hD ha0
                  rw [if_pos (by simp [Region.wanted, yielded, r73])]
                  go_simp
                  exact hK _ hC (Below.refl _ _)
                · -- 9
                  intro vs a W K ha hC hD hU hK
                  have r73 : a.tmps[73]? = some (vs 5) := by rw [ha]; exact fillA_get0 (j := 5) (by kernel_rfl) (by rw [hsz]; decide)
                  have q5 : vs 5 = .bool false := hD 5 (by simp [waits, Region.binds])
                  rw [q5] at r73
                  have r76 : a.tmps[76]? = some (vs 8) := by rw [ha]; exact fillA_get0 (j := 8) (by kernel_rfl) (by rw [hsz]; decide)
                  have q8 : vs 8 = .pointer (some ⟨bS, oS + k, none⟩) := hD 8 (by simp [waits, Region.binds])
                  rw [q8] at r76
                  clear ha hU hD ha0
                  rw [if_pos (by simp [Region.wanted, yielded, r73])]
                  obtain ⟨kq1a, kq2a, kq3a, kq4a⟩ := kq.out W hC
                  have kz := kq1.out W hC
                  go_simp
                  exact hK _ hC (Below.refl _ _)
                · -- 10
                  intro vs a W K ha hC hD hU hK
                  have r73 : a.tmps[73]? = some (vs 5) := by rw [ha]; exact fillA_get0 (j := 5) (by kernel_rfl) (by rw [hsz]; decide)
                  have q5 : vs 5 = .bool false := hD 5 (by simp [waits, Region.binds])
                  rw [q5] at r73
                  have r4 : a.tmps[4]? = some (.pointer (some ⟨w.heap.size + 1, 0, none⟩)) := by rw [ha, fillA_base0 (by kernel_rfl)]; exact tb4
                  clear ha hU hD ha0
                  rw [if_pos (by simp [Region.wanted, yielded, r73])]
                  go_simp
                  exact hK _ hC (Below.refl _ _)
                · -- 11
                  intro vs a W K ha hC hD hU hK
                  have r73 : a.tmps[73]? = some (vs 5) := by rw [ha]; exact fillA_get0 (j := 5) (by kernel_rfl) (by rw [hsz]; decide)
                  have q5 : vs 5 = .bool false := hD 5 (by simp [waits, Region.binds])
                  rw [q5] at r73
                  have r78 : a.tmps[78]? = some (vs 10) := by rw [ha]; exact fillA_get0 (j := 10) (by kernel_rfl) (by rw [hsz]; decide)
                  have q10 : vs 10 = .pointer (some ⟨w.heap.size + 1, 2, none⟩) := hD 10 (by simp [waits, Region.binds])
                  rw [q10] at r78
                  clear ha hU hD ha0
                  rw [if_pos (by simp [Region.wanted, yielded, r73])]
                  obtain ⟨kq1a, kq2a, kq3a, kq4a⟩ := kq.out W hC
                  have kz := kq1.out W hC
                  go_simp
                  exact hK _ hC (Below.refl _ _)
                · -- 12
                  intro vs a W K ha hC hD hU hK
                  have r73 : a.tmps[73]? = some (vs 5) := by rw [ha]; exact fillA_get0 (j := 5) (by kernel_rfl) (by rw [hsz]; decide)
                  have q5 : vs 5 = .bool false := hD 5 (by simp [waits, Region.binds])
                  rw [q5] at r73
                  have r79 : a.tmps[79]? = some (vs 11) := by rw [ha]; exact fillA_get0 (j := 11) (by kernel_rfl) (by rw [hsz]; decide)
                  have q11 : vs 11 = .slice (some ⟨bO, oO, none⟩) m od := hD 11 (by simp [waits, Region.binds])
                  rw [q11] at r79
                  clear ha hU hD ha0
                  rw [if_pos (by simp [Region.wanted, yielded, r73])]
                  go_simp
                  exact hK _ hC (Below.refl _ _)
                · -- 13
                  intro vs a W K ha hC hD hU hK
                  have r73 : a.tmps[73]? = some (vs 5) := by rw [ha]; exact fillA_get0 (j := 5) (by kernel_rfl) (by rw [hsz]; decide)
                  have q5 : vs 5 = .bool false := hD 5 (by simp [waits, Region.binds])
                  rw [q5] at r73
                  have r77 : a.tmps[77]? = some (vs 9) := by rw [ha]; exact fillA_get0 (j := 9) (by kernel_rfl) (by rw [hsz]; decide)
                  have q9 : vs 9 = .int .i64 (xn1 : Int) := hD 9 (by simp [waits, Region.binds])
                  rw [q9] at r77
                  have r80 : a.tmps[80]? = some (vs 12) := by rw [ha]; exact fillA_get0 (j := 12) (by kernel_rfl) (by rw [hsz]; decide)
                  have q12 : vs 12 = .int .i64 (m : Int) := hD 12 (by simp [waits, Region.binds])
                  rw [q12] at r80
                  clear ha hU hD ha0
                  rw [if_pos (by simp [Region.wanted, yielded, r73])]
                  go_simp
                  exact hK _ hC (Below.refl _ _)
                · -- 14
                  intro vs a W K ha hC hD hU hK
                  have r73 : a.tmps[73]? = some (vs 5) := by rw [ha]; exact fillA_get0 (j := 5) (by kernel_rfl) (by rw [hsz]; decide)
                  have q5 : vs 5 = .bool false := hD 5 (by simp [waits, Region.binds])
                  rw [q5] at r73
                  have r81 : a.tmps[81]? = some (vs 13) := by rw [ha]; exact fillA_get0 (j := 13) (by kernel_rfl) (by rw [hsz]; decide)
                  have q13 : vs 13 = .bool false := hD 13 (by simp [waits, Region.binds])
                  rw [q13] at r81
                  clear ha hU hD ha0
                  rw [if_pos (by rfl)]
                  go_simp
                  exact hK _ hC (Below.refl _ _)
                · -- 15
                  intro vs a W K ha hC hD hU hK
                  have r82 : a.tmps[82]? = some (vs 14) := by rw [ha]; exact fillA_get0 (j := 14) (by kernel_rfl) (by rw [hsz]; decide)
                  have q14 : vs 14 = .bool false := hD 14 (by simp [waits, Region.binds])
                  rw [q14] at r82
                  clear ha hU hD ha0
                  rw [if_pos (by rfl)]
                  go_simp
                  exact hK _ hC (Below.refl _ _)
                · -- 16
                  intro vs a W K ha hC hD hU hK
                  have r83 : a.tmps[83]? = some (vs 15) := by rw [ha]; exact fillA_get0 (j := 15) (by kernel_rfl) (by rw [hsz]; decide)
                  have q15 : vs 15 = .bool false := hD 15 (by simp [waits, Region.binds])
                  rw [q15] at r83
                  have r13 : a.tmps[13]? = some (.int .i64 (k : Int)) := by rw [ha, fillA_base0 (by kernel_rfl)]; exact tb13
                  clear ha hU hD ha0
                  rw [if_pos (by simp [Region.wanted, yielded, r83])]
                  go_simp
                  exact hK _ hC (Below.refl _ _)
                · -- 17
                  intro vs a W K ha hC hD hU hK
                  have r83 : a.tmps[83]? = some (vs 15) := by rw [ha]; exact fillA_get0 (j := 15) (by kernel_rfl) (by rw [hsz]; decide)
                  have q15 : vs 15 = .bool false := hD 15 (by simp [waits, Region.binds])
                  rw [q15] at r83
                  have r84 : a.tmps[84]? = some (vs 16) := by rw [ha]; exact fillA_get0 (j := 16) (by kernel_rfl) (by rw [hsz]; decide)
                  have q16 : vs 16 = .int .i64 (k : Int) := hD 16 (by simp [waits, Region.binds])
                  rw [q16] at r84
                  clear ha hU hD ha0
                  rw [if_pos (by simp [Region.wanted, yielded, r83])]
                  go_simp
                  exact hK _ hC (Below.refl _ _)
                · -- 18
                  intro vs a W K ha hC hD hU hK
                  have r83 : a.tmps[83]? = some (vs 15) := by rw [ha]; exact fillA_get0 (j := 15) (by kernel_rfl) (by rw [hsz]; decide)
                  have q15 : vs 15 = .bool false := hD 15 (by simp [waits, Region.binds])
                  rw [q15] at r83
                  have r85 : a.tmps[85]? = some (vs 17) := by rw [ha]; exact fillA_get0 (j := 17) (by kernel_rfl) (by rw [hsz]; decide)
                  have q17 : vs 17 = .bool true := hD 17 (by simp [waits, Region.binds])
                  rw [q17] at r85
                  clear ha hU hD ha0
                  rw [if_pos (by simp [Region.wanted, yielded, r83])]
                  go_simp
                  exact hK _ hC (Below.refl _ _)
                · -- 19
                  intro vs a W K ha hC hD hU hK
                  have r86 : a.tmps[86]? = some (vs 18) := by rw [ha]; exact fillA_get0 (j := 18) (by kernel_rfl) (by rw [hsz]; decide)
                  have q18 : vs 18 = .bool true := hD 18 (by simp [waits, Region.binds])
                  rw [q18] at r86
                  have r8 : a.tmps[8]? = some (.slice (some ⟨bS, oS, none⟩) sn kc) := by rw [ha, fillA_base0 (by kernel_rfl)]; exact tb8
                  clear ha hU hD ha0
                  rw [if_pos (by simp [Region.wanted, yielded, r86])]
                  go_simp
                  exact hK _ hC (Below.refl _ _)
                · -- 20
                  intro vs a W K ha hC hD hU hK
                  have r86 : a.tmps[86]? = some (vs 18) := by rw [ha]; exact fillA_get0 (j := 18) (by kernel_rfl) (by rw [hsz]; decide)
                  have q18 : vs 18 = .bool true := hD 18 (by simp [waits, Region.binds])
                  rw [q18] at r86
                  have r13 : a.tmps[13]? = some (.int .i64 (k : Int)) := by rw [ha, fillA_base0 (by kernel_rfl)]; exact tb13
                  clear ha hU hD ha0
                  rw [if_pos (by simp [Region.wanted, yielded, r86])]
                  go_simp
                  exact hK _ hC (Below.refl _ _)
                · -- 21
                  intro vs a W K ha hC hD hU hK
                  have r86 : a.tmps[86]? = some (vs 18) := by rw [ha]; exact fillA_get0 (j := 18) (by kernel_rfl) (by rw [hsz]; decide)
                  have q18 : vs 18 = .bool true := hD 18 (by simp [waits, Region.binds])
                  rw [q18] at r86
                  have r87 : a.tmps[87]? = some (vs 19) := by rw [ha]; exact fillA_get0 (j := 19) (by kernel_rfl) (by rw [hsz]; decide)
                  have q19 : vs 19 = .slice (some ⟨bS, oS, none⟩) sn kc := hD 19 (by simp [waits, Region.binds])
                  rw [q19] at r87
                  have r88 : a.tmps[88]? = some (vs 20) := by rw [ha]; exact fillA_get0 (j := 20) (by kernel_rfl) (by rw [hsz]; decide)
                  have q20 : vs 20 = .int .i64 (k : Int) := hD 20 (by simp [waits, Region.binds])
                  rw [q20] at r88
                  clear ha hU hD ha0
                  rw [if_pos (by simp [Region.wanted, yielded, r86])]
                  go_simp
                  exact hK _ hC (Below.refl _ _)
                · -- 22
                  intro vs a W K ha hC hD hU hK
                  have r86 : a.tmps[86]? = some (vs 18) := by rw [ha]; exact fillA_get0 (j := 18) (by kernel_rfl) (by rw [hsz]; decide)
                  have q18 : vs 18 = .bool true := hD 18 (by simp [waits, Region.binds])
                  rw [q18] at r86
                  have r89 : a.tmps[89]? = some (vs 21) := by rw [ha]; exact fillA_get0 (j := 21) (by kernel_rfl) (by rw [hsz]; decide)
                  have q21 : vs 21 = .pointer (some ⟨bS, oS + k, none⟩) := hD 21 (by simp [waits, Region.binds])
                  rw [q21] at r89
                  clear ha hU hD ha0
                  rw [if_pos (by simp [Region.wanted, yielded, r86])]
                  obtain ⟨kq1a, kq2a, kq3a, kq4a⟩ := kq.out W hC
                  have kz := kq1.out W hC
                  go_simp
                  exact hK _ hC (Below.refl _ _)
                · -- 23
                  intro vs a W K ha hC hD hU hK
                  have r86 : a.tmps[86]? = some (vs 18) := by rw [ha]; exact fillA_get0 (j := 18) (by kernel_rfl) (by rw [hsz]; decide)
                  have q18 : vs 18 = .bool true := hD 18 (by simp [waits, Region.binds])
                  rw [q18] at r86
                  have r8 : a.tmps[8]? = some (.slice (some ⟨bS, oS, none⟩) sn kc) := by rw [ha, fillA_base0 (by kernel_rfl)]; exact tb8
                  clear ha hU hD ha0
                  rw [if_pos (by simp [Region.wanted, yielded, r86])]
                  go_simp
                  exact hK _ hC (Below.refl _ _)
                · -- 24
                  intro vs a W K ha hC hD hU hK
                  have r86 : a.tmps[86]? = some (vs 18) := by rw [ha]; exact fillA_get0 (j := 18) (by kernel_rfl) (by rw [hsz]; decide)
                  have q18 : vs 18 = .bool true := hD 18 (by simp [waits, Region.binds])
                  rw [q18] at r86
                  have r13 : a.tmps[13]? = some (.int .i64 (k : Int)) := by rw [ha, fillA_base0 (by kernel_rfl)]; exact tb13
                  clear ha hU hD ha0
                  rw [if_pos (by simp [Region.wanted, yielded, r86])]
                  go_simp
                  exact hK _ hC (Below.refl _ _)
                · -- 25
                  intro vs a W K ha hC hD hU hK
                  have r86 : a.tmps[86]? = some (vs 18) := by rw [ha]; exact fillA_get0 (j := 18) (by kernel_rfl) (by rw [hsz]; decide)
                  have q18 : vs 18 = .bool true := hD 18 (by simp [waits, Region.binds])
                  rw [q18] at r86
                  have r92 : a.tmps[92]? = some (vs 24) := by rw [ha]; exact fillA_get0 (j := 24) (by kernel_rfl) (by rw [hsz]; decide)
                  have q24 : vs 24 = .int .i64 (k : Int) := hD 24 (by simp [waits, Region.binds])
                  rw [q24] at r92
                  clear ha hU hD ha0
                  rw [if_pos (by simp [Region.wanted, yielded, r86])]
                  go_simp
                  exact hK _ hC (Below.refl _ _)
                · -- 26
                  intro vs a W K ha hC hD hU hK
                  have r86 : a.tmps[86]? = some (vs 18) := by rw [ha]; exact fillA_get0 (j := 18) (by kernel_rfl) (by rw [hsz]; decide)
                  have q18 : vs 18 = .bool true := hD 18 (by simp [waits, Region.binds])
                  rw [q18] at r86
                  have r91 : a.tmps[91]? = some (vs 23) := by rw [ha]; exact fillA_get0 (j := 23) (by kernel_rfl) (by rw [hsz]; decide)
                  have q23 : vs 23 = .slice (some ⟨bS, oS, none⟩) sn kc := hD 23 (by simp [waits, Region.binds])
                  rw [q23] at r91
                  have r93 : a.tmps[93]? = some (vs 25) := by rw [ha]; exact fillA_get0 (j := 25) (by kernel_rfl) (by rw [hsz]; decide)
                  have q25 : vs 25 = .int .i64 (k1 : Int) := hD 25 (by simp [waits, Region.binds])
                  rw [q25] at r93
                  clear ha hU hD ha0
                  rw [if_pos (by simp [Region.wanted, yielded, r86])]
                  go_simp
                  exact hK _ hC (Below.refl _ _)
                · -- 27
                  intro vs a W K ha hC hD hU hK
                  have r86 : a.tmps[86]? = some (vs 18) := by rw [ha]; exact fillA_get0 (j := 18) (by kernel_rfl) (by rw [hsz]; decide)
                  have q18 : vs 18 = .bool true := hD 18 (by simp [waits, Region.binds])
                  rw [q18] at r86
                  have r94 : a.tmps[94]? = some (vs 26) := by rw [ha]; exact fillA_get0 (j := 26) (by kernel_rfl) (by rw [hsz]; decide)
                  have q26 : vs 26 = .pointer (some ⟨bS, oS + k1, none⟩) := hD 26 (by simp [waits, Region.binds])
                  rw [q26] at r94
                  clear ha hU hD ha0
                  rw [if_pos (by simp [Region.wanted, yielded, r86])]
                  obtain ⟨kq1a, kq2a, kq3a, kq4a⟩ := kq.out W hC
                  have kz := kq1.out W hC
                  go_simp
                  exact hK _ hC (Below.refl _ _)
                · -- 28
                  intro vs a W K ha hC hD hU hK
                  have r86 : a.tmps[86]? = some (vs 18) := by rw [ha]; exact fillA_get0 (j := 18) (by kernel_rfl) (by rw [hsz]; decide)
                  have q18 : vs 18 = .bool true := hD 18 (by simp [waits, Region.binds])
                  rw [q18] at r86
                  have r90 : a.tmps[90]? = some (vs 22) := by rw [ha]; exact fillA_get0 (j := 22) (by kernel_rfl) (by rw [hsz]; decide)
                  have q22 : vs 22 = .int .i64 (xn1 : Int) := hD 22 (by simp [waits, Region.binds])
                  rw [q22] at r90
                  have r95 : a.tmps[95]? = some (vs 27) := by rw [ha]; exact fillA_get0 (j := 27) (by kernel_rfl) (by rw [hsz]; decide)
                  have q27 : vs 27 = .int .i64 x2 := hD 27 (by simp [waits, Region.binds])
                  rw [q27] at r95
                  clear ha hU hD ha0
                  rw [if_pos (by simp [Region.wanted, yielded, r86])]
                  go_simp
                  exact hK _ hC (Below.refl _ _)
                · -- 29
                  intro vs a W K ha hC hD hU hK
                  have r83 : a.tmps[83]? = some (vs 15) := by rw [ha]; exact fillA_get0 (j := 15) (by kernel_rfl) (by rw [hsz]; decide)
                  have q15 : vs 15 = .bool false := hD 15 (by simp [waits, Region.binds])
                  rw [q15] at r83
                  have r86 : a.tmps[86]? = some (vs 18) := by rw [ha]; exact fillA_get0 (j := 18) (by kernel_rfl) (by rw [hsz]; decide)
                  have q18 : vs 18 = .bool true := hD 18 (by simp [waits, Region.binds])
                  rw [q18] at r86
                  have r96 : a.tmps[96]? = some (vs 28) := by rw [ha]; exact fillA_get0 (j := 28) (by kernel_rfl) (by rw [hsz]; decide)
                  have q28 : vs 28 = .bool false := hD 28 (by simp [waits, Region.binds])
                  rw [q28] at r96
                  clear ha hU hD ha0
                  rw [if_pos (by simp [Region.wanted, yielded, r83])]
                  go_simp
                  exact hK _ hC (Below.refl _ _)
                · -- 30
                  intro vs a W K ha hC hD hU hK
                  have r83 : a.tmps[83]? = some (vs 15) := by rw [ha]; exact fillA_get0 (j := 15) (by kernel_rfl) (by rw [hsz]; decide)
                  have q15 : vs 15 = .bool false := hD 15 (by simp [waits, Region.binds])
                  rw [q15] at r83
                  have r97 : a.tmps[97]? = some (vs 29) := by rw [ha]; exact fillA_get0 (j := 29) (by kernel_rfl) (by rw [hsz]; decide)
                  have q29 : vs 29 = .bool false := hD 29 (by simp [waits, Region.binds])
                  rw [q29] at r97
                  clear ha hU hD ha0
                  rw [if_pos (by rfl)]
                  go_simp
                  exact hK _ hC (Below.refl _ _)
              case finG =>
                refine Fin1.none (Nat.le_refl _) ?_
                intro vs W a1 hC hE ha
                have eL : vs 30 = .bool false := hE 30 (by simp)
                rw [ha, ha0]
                clear ha ha0 hsz tb4 tb8 tb13
                simp only [fillA, Act.put, List.setIfInBounds_toArray, List.set_cons_zero, List.set_cons_succ, Nat.zero_add, Nat.reduceAdd, eL]
                obtain ⟨u0, hu0⟩ : ∃ v0, vs 0 = v0 := ⟨_, rfl⟩
                obtain ⟨u1, hu1⟩ : ∃ v0, vs 1 = v0 := ⟨_, rfl⟩
                obtain ⟨u2, hu2⟩ : ∃ v0, vs 2 = v0 := ⟨_, rfl⟩
                obtain ⟨u3, hu3⟩ : ∃ v0, vs 3 = v0 := ⟨_, rfl⟩
                obtain ⟨u4, hu4⟩ : ∃ v0, vs 4 = v0 := ⟨_, rfl⟩
                obtain ⟨u5, hu5⟩ : ∃ v0, vs 5 = v0 := ⟨_, rfl⟩
                obtain ⟨u6, hu6⟩ : ∃ v0, vs 6 = v0 := ⟨_, rfl⟩
                obtain ⟨u7, hu7⟩ : ∃ v0, vs 7 = v0 := ⟨_, rfl⟩
                obtain ⟨u8, hu8⟩ : ∃ v0, vs 8 = v0 := ⟨_, rfl⟩
                obtain ⟨u9, hu9⟩ : ∃ v0, vs 9 = v0 := ⟨_, rfl⟩
                obtain ⟨u10, hu10⟩ : ∃ v0, vs 10 = v0 := ⟨_, rfl⟩
                obtain ⟨u11, hu11⟩ : ∃ v0, vs 11 = v0 := ⟨_, rfl⟩
                obtain ⟨u12, hu12⟩ : ∃ v0, vs 12 = v0 := ⟨_, rfl⟩
                obtain ⟨u13, hu13⟩ : ∃ v0, vs 13 = v0 := ⟨_, rfl⟩
                obtain ⟨u14, hu14⟩ : ∃ v0, vs 14 = v0 := ⟨_, rfl⟩
                obtain ⟨u15, hu15⟩ : ∃ v0, vs 15 = v0 := ⟨_, rfl⟩
                obtain ⟨u16, hu16⟩ : ∃ v0, vs 16 = v0 := ⟨_, rfl⟩
                obtain ⟨u17, hu17⟩ : ∃ v0, vs 17 = v0 := ⟨_, rfl⟩
                obtain ⟨u18, hu18⟩ : ∃ v0, vs 18 = v0 := ⟨_, rfl⟩
                obtain ⟨u19, hu19⟩ : ∃ v0, vs 19 = v0 := ⟨_, rfl⟩
                obtain ⟨u20, hu20⟩ : ∃ v0, vs 20 = v0 := ⟨_, rfl⟩
                obtain ⟨u21, hu21⟩ : ∃ v0, vs 21 = v0 := ⟨_, rfl⟩
                obtain ⟨u22, hu22⟩ : ∃ v0, vs 22 = v0 := ⟨_, rfl⟩
                obtain ⟨u23, hu23⟩ : ∃ v0, vs 23 = v0 := ⟨_, rfl⟩
                obtain ⟨u24, hu24⟩ : ∃ v0, vs 24 = v0 := ⟨_, rfl⟩
                obtain ⟨u25, hu25⟩ : ∃ v0, vs 25 = v0 := ⟨_, rfl⟩
                obtain ⟨u26, hu26⟩ : ∃ v0, vs 26 = v0 := ⟨_, rfl⟩
                obtain ⟨u27, hu27⟩ : ∃ v0, vs 27 = v0 := ⟨_, rfl⟩
                obtain ⟨u28, hu28⟩ : ∃ v0, vs 28 = v0 := ⟨_, rfl⟩
                obtain ⟨u29, hu29⟩ : ∃ v0, vs 29 = v0 := ⟨_, rfl⟩
                rw [hu0, hu1, hu2, hu3, hu4, hu5, hu6, hu7, hu8, hu9, hu10, hu11, hu12, hu13, hu14, hu15, hu16, hu17, hu18, hu19, hu20, hu21, hu22, hu23, hu24, hu25, hu26, hu27, hu28, hu29]
                clear hu0 hu1 hu2 hu3 hu4 hu5 hu6 hu7 hu8 hu9 hu10 hu11 hu12 hu13 hu14 hu15 hu16 hu17 hu18 hu19 hu20 hu21 hu22 hu23 hu24 hu25 hu26 hu27 hu28 hu29
                have HWA : Hid (Below wr.heap.size wr W) := hC
                obtain ⟨WA, hWA⟩ : ∃ V, V = W := ⟨_, rfl⟩
                subst hWA
                clear hE eL hC
                go_wp2_with fail
                refine wp_frameT ?_
                intro a0 ha0
                have tb4 : a0.tmps[4]? = some (.pointer (some ⟨w.heap.size + 1, 0, none⟩)) := by rw [ha0]; kernel_rfl
                have tb8 : a0.tmps[8]? = some (.slice (some ⟨bS, oS, none⟩) sn kc) := by rw [ha0]; kernel_rfl
                have tb13 : a0.tmps[13]? = some (.int .i64 (k : Int)) := by rw [ha0]; kernel_rfl
                have hsz : a0.tmps.size = 165 := by rw [ha0]; kernel_rfl
                refine wp_region_list2 (fun W => Below WA.heap.size WA W) (fun w w' => Below w.heap.size w w')
                  [isV (.slice An k cap), isV (.pointer (some ⟨w.heap.size + 1, 2, none⟩)), isV (.slice (some ⟨bO, oO, none⟩) m od), isV (.slice (some ⟨bS, oS, none⟩) sn kc), isV (.int .i64 (k : Int)), isV (.pointer (some ⟨bS, oS + k, none⟩)), isV (.int .i64 (xn1 : Int)), isV (.pointer (some ⟨bO, oO + xn1 * 2, none⟩)), isV (.agg #[.int .i64 pa, .int .i64 pz]), IsSp (pa, pz)]
                  (by kernel_rfl) (by kernel_rfl) (by kernel_rfl) (by rfl) (by rfl) (by rfl) (by rfl) (by rfl) (Below.refl _ _).drew ?stabD ?stepD ?finD
                case stabD => exact (StabL.is (StabL.is (StabL.is (StabL.is (StabL.is (StabL.is (StabL.is (StabL.is (StabL.is (StabL.cons (fun v W V hC hX h => h.bl hX) StabL.nil))))))))))
                case stepD =>
                  refine StepsL.isA ?_ (StepsL.isA ?_ (StepsL.isA ?_ (StepsL.isA ?_ (StepsL.isA ?_ (StepsL.isA ?_ (StepsL.isA ?_ (StepsL.isA ?_ (StepsL.isA ?_ (StepsL.consA ?_ StepsL.nil)))))))))
                  · -- 0
                    intro vs a W K ha hC hD hU hK
                    have r11 : a.tmps[11]? = some (vs 11) := by rw [ha]; exact fillA_get0 (j := 11) (by kernel_rfl) (by rw [hsz]; decide)
                    have q11 : vs 11 = .slice An k cap := (hU 11 _ rfl (by simp [waits, Region.binds])).trans (by rw [ha0]; kernel_rfl)
                    rw [q11] at r11
                    clear ha hU hD ha0
                    rw [if_pos (by rfl)]
                    go_simp
                    exact hK _ hC (Below.refl _ _)
                  · -- 1
                    intro vs a W K ha hC hD hU hK
                    have r4 : a.tmps[4]? = some (.pointer (some ⟨w.heap.size + 1, 0, none⟩)) := by rw [ha, fillA_base0 (by kernel_rfl)]; exact tb4
                    clear ha hU hD ha0
                    rw [if_pos (by rfl)]
                    go_simp
                    exact hK _ hC (Below.refl _ _)
                  · -- 2
                    intro vs a W K ha hC hD hU hK
                    have r100 : a.tmps[100]? = some (vs 1) := by rw [ha]; exact fillA_get0 (j := 1) (by kernel_rfl) (by rw [hsz]; decide)
                    have q1 : vs 1 = .pointer (some ⟨w.heap.size + 1, 2, none⟩) := hD 1 (by simp [waits, Region.binds])
                    rw [q1] at r100
                    clear ha hU hD ha0
                    rw [if_pos (by rfl)]
                    obtain ⟨kq1, kq2, kq3, kq4⟩ := kq.out W (bl_call HWA.out hC (Nat.le_refl _))
                    go_simp
                    exact hK _ hC (Below.refl _ _)
                  · -- 3
                    intro vs a W K ha hC hD hU hK
                    have r8 : a.tmps[8]? = some (.slice (some ⟨bS, oS, none⟩) sn kc) := by rw [ha, fillA_base0 (by kernel_rfl)]; exact tb8
                    clear ha hU hD ha0
                    rw [if_pos (by rfl)]
                    go_simp
                    exact hK _ hC (Below.refl _ _)
                  · -- 4
                    intro vs a W K ha hC hD hU hK
                    have r13 : a.tmps[13]? = some (.int .i64 (k : Int)) := by rw [ha, fillA_base0 (by kernel_rfl)]; exact tb13
                    clear ha hU hD ha0
                    rw [if_pos (by rfl)]
                    go_simp
                    exact hK _ hC (Below.refl _ _)
                  · -- 5
                    intro vs a W K ha hC hD hU hK
                    have r102 : a.tmps[102]? = some (vs 3) := by rw [ha]; exact fillA_get0 (j := 3) (by kernel_rfl) (by rw [hsz]; decide)
                    have q3 : vs 3 = .slice (some ⟨bS, oS, none⟩) sn kc := hD 3 (by simp [waits, Region.binds])
                    rw [q3] at r102
                    have r103 : a.tmps[103]? = some (vs 4) := by rw [ha]; exact fillA_get0 (j := 4) (by kernel_rfl) (by rw [hsz]; decide)
                    have q4 : vs 4 = .int .i64 (k : Int) := hD 4 (by simp [waits, Region.binds])
                    rw [q4] at r103
                    clear ha hU hD ha0
                    rw [if_pos (by rfl)]
                    go_simp
                    exact hK _ hC (Below.refl _ _)
                  · -- 6
                    intro vs a W K ha hC hD hU hK
                    have r104 : a.tmps[104]? = some (vs 5) := by rw [ha]; exact fillA_get0 (j := 5) (by kernel_rfl) (by rw [hsz]; decide)
                    have q5 : vs 5 = .pointer (some ⟨bS, oS + k, none⟩) := hD 5 (by simp [waits, Region.binds])
                    rw [q5] at r104
                    clear ha hU hD ha0
                    rw [if_pos (by rfl)]
                    obtain ⟨kq1, kq2, kq3, kq4⟩ := kq.out W (bl_call HWA.out hC (Nat.le_refl _))
                    go_simp
                    exact hK _ hC (Below.refl _ _)
                  · -- 7
                    intro vs a W K ha hC hD hU hK
                    have r101 : a.tmps[101]? = some (vs 2) := by rw [ha]; exact fillA_get0 (j := 2) (by kernel_rfl) (by rw [hsz]; decide)
                    have q2 : vs 2 = .slice (some ⟨bO, oO, none⟩) m od := hD 2 (by simp [waits, Region.binds])
                    rw [q2] at r101
                    have r105 : a.tmps[105]? = some (vs 6) := by rw [ha]; exact fillA_get0 (j := 6) (by kernel_rfl) (by rw [hsz]; decide)
                    have q6 : vs 6 = .int .i64 (xn1 : Int) := hD 6 (by simp [waits, Region.binds])
                    rw [q6] at r105
                    clear ha hU hD ha0
                    rw [if_pos (by rfl)]
                    go_simp
                    exact hK _ hC (Below.refl _ _)
                  · -- 8
                    intro vs a W K ha hC hD hU hK
                    have r106 : a.tmps[106]? = some (vs 7) := by rw [ha]; exact fillA_get0 (j := 7) (by kernel_rfl) (by rw [hsz]; decide)
                    have q7 : vs 7 = .pointer (some ⟨bO, oO + xn1 * 2, none⟩) := hD 7 (by simp [waits, Region.binds])
                    rw [q7] at r106
                    clear ha hU hD ha0
                    rw [if_pos (by rfl)]
                    obtain ⟨kq1, kq2, kq3, kq4⟩ := kq.out W (bl_call HWA.out hC (Nat.le_refl _))
                    go_simp
                    exact hK _ hC (Below.refl _ _)
                  · -- 9
                    intro vs a W K ha hC hD hU hK
                    have r107 : a.tmps[107]? = some (vs 8) := by rw [ha]; exact fillA_get0 (j := 8) (by kernel_rfl) (by rw [hsz]; decide)
                    have q8 : vs 8 = .agg #[.int .i64 pa, .int .i64 pz] := hD 8 (by simp [waits, Region.binds])
                    rw [q8] at r107
                    clear ha hU hD ha0
                    rw [if_pos (by rfl)]
                    go_simp
                    exact hK _ _ (bl_alloc hC _ (Nat.le_refl _)) (bl_alloc (Below.refl _ _) _ (Nat.le_refl _)) ⟨_, rfl, Blk.new _ _ _ rfl⟩
                case finD =>
                  intro vs W hC hE hU
                  rw [ha0]
                  clear hU hsz tb4 tb8 tb13
                  have e0 : vs 0 = .slice An k cap := hE 0 (by simp)
                  have E9 : IsSp (pa, pz) (vs 9) W := hE 9 (by simp)
                  simp only [fillA, Act.put, List.setIfInBounds_toArray, List.set_cons_zero, List.set_cons_succ, Nat.zero_add, Nat.reduceAdd, e0]
                  obtain ⟨g25, h25, hB25⟩ := E9
                  rw [h25]
                  obtain ⟨u1, hu1⟩ : ∃ v0, vs 1 = v0 := ⟨_, rfl⟩
                  obtain ⟨u2, hu2⟩ : ∃ v0, vs 2 = v0 := ⟨_, rfl⟩
                  obtain ⟨u3, hu3⟩ : ∃ v0, vs 3 = v0 := ⟨_, rfl⟩
                  obtain ⟨u4, hu4⟩ : ∃ v0, vs 4 = v0 := ⟨_, rfl⟩
                  obtain ⟨u5, hu5⟩ : ∃ v0, vs 5 = v0 := ⟨_, rfl⟩
                  obtain ⟨u6, hu6⟩ : ∃ v0, vs 6 = v0 := ⟨_, rfl⟩
                  obtain ⟨u7, hu7⟩ : ∃ v0, vs 7 = v0 := ⟨_, rfl⟩
                  obtain ⟨u8, hu8⟩ : ∃ v0, vs 8 = v0 := ⟨_, rfl⟩
                  rw [hu1, hu2, hu3, hu4, hu5, hu6, hu7, hu8]
                  clear hu1 hu2 hu3 hu4 hu5 hu6 hu7 hu8
                  clear hE e0 h25
                  obtain ⟨A2, cap2, w2, hrun, hO2, hg2, hat⟩ := run_append_one W 72 72 PairR.good V6.heap.size 23 iP _ 16 Try.underlying72 hiP hzP0 hzP1 hzP2 rfl (by omega) (.slice An k cap) (pickP p (sk.take k)) (pa, pz) (HO.out.below PairR.good (bl_call HWA.out hC (Nat.le_refl _))) ⟨g25, 0, none⟩ 1 [.int .i64 pa, .int .i64 pz] rfl (fun j v hv => blk_newsP hB25 hv) (by rw [Hlen.out]; simp only [maxLen]; omega) (by rw [Hlen.out]; omega) (by have := hC.size; have := HWA.out.size; have := HBr.out.size; omega) (fun h => h)
                  have hB2 : Below V6.heap.size V6 w2 := bl_grown (bl_call HBr.out (bl_call HWA.out hC (Nat.le_refl _)) (Nat.le_refl _)) (HO.out.below PairR.good (bl_call HWA.out hC (Nat.le_refl _))) hg2 (Nat.le_refl _) (Nat.le_refl _)
                  rw [Hlen.out] at hrun hO2
                  rw [← HNX.out] at hO2
                  refine wp_append_of_run rfl rfl rfl hrun ?_
                  clear hrun hg2 hat hC hB25 kq
                  have HO2 := Lib.hid hO2
                  have HB2 := Lib.hid hB2
                  clear hO2 hB2
                  go_simp
                  go_wp2
                  go_roundw
                  case rel => exact ⟨k + 1, cap2, _, by omega, by go_num, rfl, HB2.out, HO2.out⟩
                  case measure => simp [intOf]; omega
          · obtain rfl : k = sn := by omega
            have hki : ¬ (k : Int) < k := by omega
            have HPF : Hid (pickP p (sk.take k) = pickP p sk) := by rw [Hid, show sk.take k = sk from List.take_of_length_le (by rw [HSL.out]; exact Nat.le_refl _)]
            rw [HPF.out] at HO
            have HPO : Hid (∀ V, Below wr.heap.size wr V → Pairs (fun _ => True) V An k (pickP p sk)) := fun V hb => (HO.out.slice PairR.good rfl (by simp only [maxLen]; omega) (fun _ h => h.elim) (fun j h _ => trivial)).keep PairR.good (Keeps.below hb)
            obtain ⟨W7, hW7⟩ : ∃ V, V = wr := ⟨_, rfl⟩
            subst hW7
            have H47 : Hid (Below V4.heap.size V4 W7) := bl_call H46.out HBr.out (Nat.le_refl _)
            obtain ⟨_, _, _, _, _, y2⟩ := kk.out W7 HBw.out
            clear HO HBr HPF Hlen
            go_wp2_with fail
            clear y2
            refine (chosen7_any (n := m) (bits := bits) W7 (by omega) hbits).mono ?_
            rintro e W8 ⟨⟨E, en, ec, rfl, hE8⟩, c8⟩
            have HEL := Lib.hid hE8.len
            have HJ : Hid (IsSet p.length (choC bits m)) := by rw [Hid, Hm.out]; exact sets_set (sets_mem.2 (choC_sub bits m))
            have hen6 : en ≤ 6 := by have := set_len HJ.out; rw [HEL.out, Hm.out] at this; omega
            obtain ⟨J, hJ⟩ : ∃ J, choC bits m = J := ⟨_, rfl⟩
            rw [hJ] at HJ HEL hE8
            have HE8 : Hid (∀ V, Below W8.heap.size W8 V → Ints (fun _ => True) V E en J) := fun V hb => (hE8.keep IntR.good (Keeps.below hb)).mono IntR.good (fun _ _ => trivial)
            have HB8 : Hid (Below WW.heap.size WW W8) := bl_call HBw.out c8 (Nat.le_refl _)
            have H48 : Hid (Below V4.heap.size V4 W8) := bl_call H47.out c8 (Nat.le_refl _)
            have H78 : Hid (Below W7.heap.size W7 W8) := c8
            have hel := hE8.le
            clear hE8 c8 hJ
            go_wp2_with fail
            go_loopw [12, 15] (fun o i wr => ∃ (k cap : Nat) (An : Option Addr), k ≤ en ∧ i = .int .i64 k ∧ o = .slice An k cap ∧ Hid (Below W8.heap.size W8 wr) ∧ Hid (OwnL PairR 2 (fun _ => False) wr W8.heap.size 23 (.slice An k cap) (pickP p (J.take k)))) (fun _ i _ => en - (intOf i).toNat)
            case atStart => exact ⟨0, 0, none, Nat.zero_le _, rfl, rfl, Below.refl _ _, OwnL.nil _ _ _ _ _ _⟩
            case round =>
              have HSNN := Lib.hid (show sk.length = k from HSL.out)
              obtain ⟨sn, hsn⟩ : ∃ x, x = k := ⟨_, rfl⟩
              obtain ⟨AO, hAO⟩ : ∃ x, x = An := ⟨_, rfl⟩
              obtain ⟨co, hco⟩ : ∃ x, x = cap := ⟨_, rfl⟩
              subst hsn hAO hco
              obtain ⟨k, cap, An, hk, rfl, rfl, HBr, HO⟩ := hrel
              have HBw9 : Hid (Below WW.heap.size WW wr) := bl_call HB8.out HBr.out (Nat.le_refl _)
              have Hlen : Hid ((pickP p (J.take k)).length = k) := by rw [Hid, pickP_len, List.length_take, HEL.out]; omega
              by_cases hlt : k < en
              · have hki : (k : Int) < en := by omega
                obtain ⟨bS, oS, x, rfl, hcS, HxS⟩ := Ints.get (HE8.out wr HBr.out) hlt
                have hxb := HJ.out.2 _ (List.mem_of_getElem? HxS.out)
                rw [Hm.out] at hxb
                obtain ⟨xn1, rfl⟩ := Int.eq_ofNat_of_zero_le hxb.1
                have hxm : xn1 < m := by omega
                have hxmi : (xn1 : Int) < m := by omega
                obtain ⟨bO, oO, pa, pz, rfl, _, hcA, hcZ, HxP⟩ := Pairs.get (HPS.out wr HBw9.out) hxm
                have HNX : Hid (pickP p (J.take (k + 1)) = pickP p (J.take k) ++ [(pa, pz)]) := by rw [Hid, pickP_snoc HxS.out, Int.toNat_natCast, getD_of HxP.out]
                obtain ⟨_, _, _, _, _, y2⟩ := kk.out wr HBw9.out
                have kq : Hid (∀ V, Below wr.heap.size wr V → V.cell? ⟨w.heap.size + 1, 2, none⟩ = some (.slice (some ⟨bO, oO, none⟩) m od) ∧ V.cell? ⟨bS, oS + k, none⟩ = some (.int .i64 (xn1 : Int)) ∧ V.cell? ⟨bO, oO + xn1 * 2, none⟩ = some (.int .i64 pa) ∧ V.cell? ⟨bO, oO + xn1 * 2 + 1, none⟩ = some (.int .i64 pz)) := fun V hb => ⟨getc hb y2, getc hb hcS, getc hb hcA, getc hb hcZ⟩
                clear hcS y2 hcA hcZ
                go_wp2_with fail
                refine wp_frameT ?_
                intro a0 ha0
                have tb4 : a0.tmps[4]? = some (.pointer (some ⟨w.heap.size + 1, 0, none⟩)) := by rw [ha0]; kernel_rfl
                have tb14 : a0.tmps[14]? = some (.slice (some ⟨bS, oS, none⟩) en ec) := by rw [ha0]; kernel_rfl
                have tb15 : a0.tmps[15]? = some (.int .i64 (k : Int)) := by rw [ha0]; kernel_rfl
                have hsz : a0.tmps.size = 165 := by rw [ha0]; kernel_rfl
                refine wp_region_list2 (fun W => Below wr.heap.size wr W) (fun w w' => Below w.heap.size w w')
                  [isV (.slice An k cap), isV (.pointer (some ⟨w.heap.size + 1, 2, none⟩)), isV (.slice (some ⟨bO, oO, none⟩) m od), isV (.slice (some ⟨bS, oS, none⟩) en ec), isV (.int .i64 (k : Int)), isV (.pointer (some ⟨bS, oS + k, none⟩)), isV (.int .i64 (xn1 : Int)), isV (.pointer (some ⟨bO, oO + xn1 * 2, none⟩)), isV (.agg #[.int .i64 pa, .int .i64 pz]), IsSp (pa, pz)]
                  (by kernel_rfl) (by kernel_rfl) (by kernel_rfl) (by rfl) (by rfl) (by rfl) (by rfl) (by rfl) (Below.refl _ _).drew ?stabE ?stepE ?finE
                case stabE => exact (StabL.is (StabL.is (StabL.is (StabL.is (StabL.is (StabL.is (StabL.is (StabL.is (StabL.is (StabL.cons (fun v W V hC hX h => h.bl hX) StabL.nil))))))))))
                case stepE =>
                  refine StepsL.isA ?_ (StepsL.isA ?_ (StepsL.isA ?_ (StepsL.isA ?_ (StepsL.isA ?_ (StepsL.isA ?_ (StepsL.isA ?_ (StepsL.isA ?_ (StepsL.isA ?_ (StepsL.consA ?_ StepsL.nil)))))))))
                  · -- 0
                    intro vs a W K ha hC hD hU hK
                    have r12 : a.tmps[12]? = some (vs 11) := by rw [ha]; exact fillA_get0 (j := 11) (by kernel_rfl) (by rw [hsz]; decide)
                    have q11 : vs 11 = .slice An k cap := (hU 11 _ rfl (by simp [waits, Region.binds])).trans (by rw [ha0]; kernel_rfl)
                    rw [q11] at r12
                    clear ha hU hD ha0
                    rw [if_pos (by rfl)]
                    go_simp
                    exact hK _ hC (Below.refl _ _)
                  · -- 1
                    intro vs a W K ha hC hD hU hK
                    have r4 : a.tmps[4]? = some (.pointer (some ⟨w.heap.size + 1, 0, none⟩)) := by rw [ha, fillA_base0 (by kernel_rfl)]; exact tb4
                    clear ha hU hD ha0
                    rw [if_pos (by rfl)]
                    go_simp
                    exact hK _ hC (Below.refl _ _)
                  · -- 2
                    intro vs a W K ha hC hD hU hK
                    have r122 : a.tmps[122]? = some (vs 1) := by rw [ha]; exact fillA_get0 (j := 1) (by kernel_rfl) (by rw [hsz]; decide)
                    have q1 : vs 1 = .pointer (some ⟨w.heap.size + 1, 2, none⟩) := hD 1 (by simp [waits, Region.binds])
                    rw [q1] at r122
                    clear ha hU hD ha0
                    rw [if_pos (by rfl)]
                    obtain ⟨kq1, kq2, kq3, kq4⟩ := kq.out W hC
                    go_simp
                    exact hK _ hC (Below.refl _ _)
                  · -- 3
                    intro vs a W K ha hC hD hU hK
                    have r14 : a.tmps[14]? = some (.slice (some ⟨bS, oS, none⟩) en ec) := by rw [ha, fillA_base0 (by kernel_rfl)]; exact tb14
                    clear ha hU hD ha0
                    rw [if_pos (by rfl)]
                    go_simp
                    exact hK _ hC (Below.refl _ _)
                  · -- 4
                    intro vs a W K ha hC hD hU hK
                    have r15 : a.tmps[15]? = some (.int .i64 (k : Int)) := by rw [ha, fillA_base0 (by kernel_rfl)]; exact tb15
                    clear ha hU hD ha0
                    rw [if_pos (by rfl)]
                    go_simp
                    exact hK _ hC (Below.refl _ _)
                  · -- 5
                    intro vs a W K ha hC hD hU hK
                    have r124 : a.tmps[124]? = some (vs 3) := by rw [ha]; exact fillA_get0 (j := 3) (by kernel_rfl) (by rw [hsz]; decide)
                    have q3 : vs 3 = .slice (some ⟨bS, oS, none⟩) en ec := hD 3 (by simp [waits, Region.binds])
                    rw [q3] at r124
                    have r125 : a.tmps[125]? = some (vs 4) := by rw [ha]; exact fillA_get0 (j := 4) (by kernel_rfl) (by rw [hsz]; decide)
                    have q4 : vs 4 = .int .i64 (k : Int) := hD 4 (by simp [waits, Region.binds])
                    rw [q4] at r125
                    clear ha hU hD ha0
                    rw [if_pos (by rfl)]
                    go_simp
                    exact hK _ hC (Below.refl _ _)
                  · -- 6
                    intro vs a W K ha hC hD hU hK
                    have r126 : a.tmps[126]? = some (vs 5) := by rw [ha]; exact fillA_get0 (j := 5) (by kernel_rfl) (by rw [hsz]; decide)
                    have q5 : vs 5 = .pointer (some ⟨bS, oS + k, none⟩) := hD 5 (by simp [waits, Region.binds])
                    rw [q5] at r126
                    clear ha hU hD ha0
                    rw [if_pos (by rfl)]
                    obtain ⟨kq1, kq2, kq3, kq4⟩ := kq.out W hC
                    go_simp
                    exact hK _ hC (Below.refl _ _)
                  · -- 7
                    intro vs a W K ha hC hD hU hK
                    have r123 : a.tmps[123]? = some (vs 2) := by rw [ha]; exact fillA_get0 (j := 2) (by kernel_rfl) (by rw [hsz]; decide)
                    have q2 : vs 2 = .slice (some ⟨bO, oO, none⟩) m od := hD 2 (by simp [waits, Region.binds])
                    rw [q2] at r123
                    have r127 : a.tmps[127]? = some (vs 6) := by rw [ha]; exact fillA_get0 (j := 6) (by kernel_rfl) (by rw [hsz]; decide)
                    have q6 : vs 6 = .int .i64 (xn1 : Int) := hD 6 (by simp [waits, Region.binds])
                    rw [q6] at r127
                    clear ha hU hD ha0
                    rw [if_pos (by rfl)]
                    go_simp
                    exact hK _ hC (Below.refl _ _)
                  · -- 8
                    intro vs a W K ha hC hD hU hK
                    have r128 : a.tmps[128]? = some (vs 7) := by rw [ha]; exact fillA_get0 (j := 7) (by kernel_rfl) (by rw [hsz]; decide)
                    have q7 : vs 7 = .pointer (some ⟨bO, oO + xn1 * 2, none⟩) := hD 7 (by simp [waits, Region.binds])
                    rw [q7] at r128
                    clear ha hU hD ha0
                    rw [if_pos (by rfl)]
                    obtain ⟨kq1, kq2, kq3, kq4⟩ := kq.out W hC
                    go_simp
                    exact hK _ hC (Below.refl _ _)
                  · -- 9
                    intro vs a W K ha hC hD hU hK
                    have r129 : a.tmps[129]? = some (vs 8) := by rw [ha]; exact fillA_get0 (j := 8) (by kernel_rfl) (by rw [hsz]; decide)
                    have q8 : vs 8 = .agg #[.int .i64 pa, .int .i64 pz] := hD 8 (by simp [waits, Region.binds])
                    rw [q8] at r129
                    clear ha hU hD ha0
                    rw [if_pos (by rfl)]
                    go_simp
                    exact hK _ _ (bl_alloc hC _ (Nat.le_refl _)) (bl_alloc (Below.refl _ _) _ (Nat.le_refl _)) ⟨_, rfl, Blk.new _ _ _ rfl⟩
                case finE =>
                  intro vs W hC hE hU
                  rw [ha0]
                  clear hU hsz tb4 tb14 tb15
                  have e0 : vs 0 = .slice An k cap := hE 0 (by simp)
                  have E9 : IsSp (pa, pz) (vs 9) W := hE 9 (by simp)
                  simp only [fillA, Act.put, List.setIfInBounds_toArray, List.set_cons_zero, List.set_cons_succ, Nat.zero_add, Nat.reduceAdd, e0]
                  obtain ⟨g25, h25, hB25⟩ := E9
                  rw [h25]
                  obtain ⟨u1, hu1⟩ : ∃ v0, vs 1 = v0 := ⟨_, rfl⟩
                  obtain ⟨u2, hu2⟩ : ∃ v0, vs 2 = v0 := ⟨_, rfl⟩
                  obtain ⟨u3, hu3⟩ : ∃ v0, vs 3 = v0 := ⟨_, rfl⟩
                  obtain ⟨u4, hu4⟩ : ∃ v0, vs 4 = v0 := ⟨_, rfl⟩
                  obtain ⟨u5, hu5⟩ : ∃ v0, vs 5 = v0 := ⟨_, rfl⟩
                  obtain ⟨u6, hu6⟩ : ∃ v0, vs 6 = v0 := ⟨_, rfl⟩
                  obtain ⟨u7, hu7⟩ : ∃ v0, vs 7 = v0 := ⟨_, rfl⟩
                  obtain ⟨u8, hu8⟩ : ∃ v0, vs 8 = v0 := ⟨_, rfl⟩
                  rw [hu1, hu2, hu3, hu4, hu5, hu6, hu7, hu8]
                  clear hu1 hu2 hu3 hu4 hu5 hu6 hu7 hu8
                  clear hE e0 h25
                  obtain ⟨A2, cap2, w2, hrun, hO2, hg2, hat⟩ := run_append_one W 72 72 PairR.good W8.heap.size 23 iP _ 16 Try.underlying72 hiP hzP0 hzP1 hzP2 rfl (by omega) (.slice An k cap) (pickP p (J.take k)) (pa, pz) (HO.out.below PairR.good hC) ⟨g25, 0, none⟩ 1 [.int .i64 pa, .int .i64 pz] rfl (fun j v hv => blk_newsP hB25 hv) (by rw [Hlen.out]; simp only [maxLen]; omega) (by rw [Hlen.out]; omega) (by have := hC.size; have := HBr.out.size; omega) (fun h => h)
                  have hB2 : Below W8.heap.size W8 w2 := bl_grown (bl_call HBr.out hC (Nat.le_refl _)) (HO.out.below PairR.good hC) hg2 (Nat.le_refl _) (Nat.le_refl _)
                  rw [Hlen.out] at hrun hO2
                  rw [← HNX.out] at hO2
                  refine wp_append_of_run rfl rfl rfl hrun ?_
                  clear hrun hg2 hat hC hB25 kq
                  have HO2 := Lib.hid hO2
                  have HB2 := Lib.hid hB2
                  clear hO2 hB2
                  go_simp
                  go_wp2
                  go_roundw
                  case rel => exact ⟨k + 1, cap2, _, by omega, by go_num, rfl, HB2.out, HO2.out⟩
                  case measure => simp [intOf]; omega
              · obtain rfl : k = en := by omega
                have hki : ¬ (k : Int) < k := by omega
                have HPF : Hid (pickP p (J.take k) = pickP p J) := by rw [Hid, show J.take k = J from List.take_of_length_le (by rw [HEL.out]; exact Nat.le_refl _)]
                rw [HPF.out] at HO
                have HPM : Hid (Pairs (fun _ => True) wr An k (pickP p J)) := HO.out.slice PairR.good rfl (by simp only [maxLen]; omega) (fun _ h => h.elim) (fun j h _ => trivial)
                have H49 : Hid (Below V4.heap.size V4 wr) := bl_call H48.out HBr.out (Nat.le_refl _)
                have H79 : Hid (Below W7.heap.size W7 wr) := bl_call H78.out HBr.out (Nat.le_refl _)
                clear HO HBr HPF Hlen
                -- the second plan and the end, from a world on
                have HMP : Hid (∀ V, Below wr.heap.size wr V → Calls Try.prog 34 #[.agg #[.int .i64 klo, .int .i64 khi, .slice A n ca], .slice C q cc, .slice An k cap] V fun e w' => (∃ D1 n1 c1 D2 n2 c2, e = .returned (.tuple #[.slice D1 n1 c1, .slice D2 n2 c2, .int .i64 (planR s l (pickP p J)).2.2])) ∧ Below V.heap.size V w') := fun V hb =>
                  (kplan_any (cc := cc) (pc := cap) V (HG.out V (bl_call HBw9.out hb (Nat.le_refl _))) (HS.out V (bl_call H49.out hb (Nat.le_refl _))) (HPM.out.keep PairR.good (Keeps.below hb)) hca h1 h2).mono fun e w' h => ⟨by obtain ⟨D1, c1, D2, c2, e1, _, _⟩ := h.1; exact ⟨D1, _, c1, D2, _, c2, e1⟩, h.2⟩
                have HOP : Hid (Calls Try.prog 34 #[.agg #[.int .i64 klo, .int .i64 khi, .slice A n ca], .slice C q cc, .slice AO sn co] wr fun e w' => (∃ D1 n1 c1 D2 n2 c2, e = .returned (.tuple #[.slice D1 n1 c1, .slice D2 n2 c2, .int .i64 (planR s l (pickP p sk)).2.2])) ∧ Below wr.heap.size wr w') :=
                  (kplan_any (cc := cc) (pc := co) wr (HG.out wr HBw9.out) (HS.out wr H49.out) (HPO.out wr H79.out) hca h1 h2).mono fun e w' h => ⟨by obtain ⟨D1, c1, D2, c2, e1, _, _⟩ := h.1; exact ⟨D1, _, c1, D2, _, c2, e1⟩, h.2⟩
                have HMV : Hid (sn < k → (planR s l (pickP p J)).2.2 = 8) := fun hh => more_plan H00.out HJ.out (by rw [HSKE.out, HSNN.out, HEL.out]; exact hh)
                have HOV : Hid (0 < sn → (planR s l (pickP p sk)).2.2 = 0) := fun hh => by have := some_plan H00.out (by rw [HSKE.out, HSNN.out]; exact hh); rwa [HSKE.out] at this
                obtain ⟨x0, x1, x2, _, _, _⟩ := kk.out wr HBw9.out
                rcases Nat.eq_zero_or_pos sn with hs0 | hsp
                · subst hs0
                  by_cases hm9 : 0 < k
                  · have hm9i : (0 : Int) < k := by omega
                    have HM2 := Lib.hid (HMP.out wr (Below.refl _ _))
                    rw [HMV.out hm9] at HM2
                    go_wp2_with fail
                    clear x0 x1 x2
                    refine HM2.out.mono ?_
                    rintro e V3 ⟨⟨D3, n3, c3, D4, n4, c4, rfl⟩, hb3⟩
                    have B3 := bl_call hBW (bl_call (bl_call HBw9.out (Below.refl _ _) (Nat.le_refl _)) hb3 (Nat.le_refl _)) (Nat.le_refl _)
                    go_wp2_with fail
                    refine (awake7_any V3).mono ?_
                    rintro e V9 ⟨rfl, c9⟩
                    have b9 := bl_call B3 c9 (Nat.le_refl _)
                    clear c9 B3
                    go_wp2
                    go_ret
                    exact ⟨by rfl, b9⟩
                  · have hm9i : ¬ (0 : Int) < k := by omega
                    have B3 := bl_call hBW (bl_call HBw9.out (Below.refl _ _) (Nat.le_refl _)) (Nat.le_refl _)
                    clear x0 x1 x2
                    go_wp2_with fail
                    refine (awake7_any wr).mono ?_
                    rintro e V9 ⟨rfl, c9⟩
                    have b9 := bl_call B3 c9 (Nat.le_refl _)
                    clear c9 B3
                    go_wp2
                    go_ret
                    exact ⟨by rfl, b9⟩
                · have hspi : (0 : Int) < sn := by omega
                  rw [HOV.out hsp] at HOP
                  have hsp0 : ¬ sn = 0 := by omega
                  go_wp2_with fail
                  clear x0 x1 x2
                  refine HOP.out.mono ?_
                  rintro e V2 ⟨⟨D1, n1, c1, D2, n2, c2, rfl⟩, hb2⟩
                  obtain ⟨x0, x1, x2, _, _, _⟩ := kk.out V2 (bl_call HBw9.out hb2 (Nat.le_refl _))
                  by_cases hm9 : sn < k
                  · have hm9i : (sn : Int) < k := by omega
                    have HM2 := Lib.hid (HMP.out V2 hb2)
                    rw [HMV.out hm9] at HM2
                    go_wp2_with fail
                    clear x0 x1 x2
                    refine HM2.out.mono ?_
                    rintro e V3 ⟨⟨D3, n3, c3, D4, n4, c4, rfl⟩, hb3⟩
                    have B3 := bl_call hBW (bl_call (bl_call HBw9.out hb2 (Nat.le_refl _)) hb3 (Nat.le_refl _)) (Nat.le_refl _)
                    go_wp2_with fail
                    refine (awake7_any V3).mono ?_
                    rintro e V9 ⟨rfl, c9⟩
                    have b9 := bl_call B3 c9 (Nat.le_refl _)
                    clear c9 B3
                    go_wp2
                    go_ret
                    exact ⟨by rfl, b9⟩
                  · have hm9i : ¬ (sn : Int) < k := by omega
                    have B3 := bl_call hBW (bl_call HBw9.out hb2 (Nat.le_refl _)) (Nat.le_refl _)
                    clear x0 x1 x2
                    go_wp2_with fail
                    refine (awake7_any V2).mono ?_
                    rintro e V9 ⟨rfl, c9⟩
                    have b9 := bl_call B3 c9 (Nat.le_refl _)
                    clear c9 B3
                    go_wp2
                    go_ret
                    exact ⟨by rfl, b9⟩
      · have HR := Lib.hid (someR_bad h0)
        obtain ⟨ev, hev⟩ : ∃ x, orderE s l p = x := ⟨_, rfl⟩
        rw [hev] at HR h0
        rw [hev]
        have hvb : (ev != 0) = true := by simpa using h0
        have hsE : se = ev := by rw [← HSE.out, HR.out]
        have hsN : sn = 0 := by rw [← HSL.out, ← HSK.out, HR.out]; rfl
        subst hsE
        clear HSE HSK HSL HR HD6
        subst hsN
        clear h0 hev
        go_wp2_with fail
        refine (awake7_any V6).mono ?_
        rintro e V7 ⟨rfl, c7⟩
        have b7 := bl_call hBW (bl_call HB6.out c7 (Nat.le_refl _)) (Nat.le_refl _)
        clear c7
        go_wp2
        go_ret
        exact ⟨by rfl, b7⟩
  · have heb : (err7 s == 0) = false := by simpa using he
    rw [heb]
    clear he heb
    go_wp2_with fail
    refine (awake7_any V1).mono ?_
    rintro e V2 ⟨rfl, c2⟩
    have b2 := bl_call hBW (bl_call b1 c2 (Nat.le_refl _)) (Nat.le_refl _)
    clear c2
    go_wp2
    go_ret
    exact ⟨by rfl, b2⟩
end Go.Proofs.Ytnaadjhiahjlfaa
