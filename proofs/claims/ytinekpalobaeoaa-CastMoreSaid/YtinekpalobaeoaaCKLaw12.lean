/- Walks, layer 7: the law CastMore. -/
import Derived.Test.YtinekpalobaeoaaCKLaw4
import Derived.Test.YtinekpalobaeoaaCKMorP
import Derived.Test.YtinekpalobaeoaaCKOuts
import Derived.Test.YtinekpalobaeoaaCKStE
import Derived.Test.YtinekpalobaeoaaCKTold
set_option linter.unusedVariables false
set_option linter.unusedSimpArgs false
set_option linter.all false
namespace Go.Proofs.Ytinekpalobaeoaa
open Go.RowKit Go.Shelf

set_option maxRecDepth 100000 in
set_option maxHeartbeats 8000000 in
theorem moreLaw_any {A XA XB O : Option Addr} {n ca xn xc xm xd m od bu0 bu1 : Nat} {s : Shop} {klo khi : Int} {xs ys : List Nat} {p : List (Int × Int)} (w : World) (g : Moulds (fun _ => True) w A n s.moulds) (hX : Bytes (fun _ => True) w XA xn xs) (hY : Bytes (fun _ => True) w XB xm ys) (hP : Pairs (fun _ => True) w O m p) (hbu0 : bu0 < 256) (hbu1 : bu1 < 256) (hca : n ≤ ca) (h1 : s.klo = klo) (h2 : s.khi = khi) :
    Calls Try.prog 3 #[.agg #[.int .i64 klo, .int .i64 khi, .slice A n ca], .agg #[.slice XA xn xc, .slice XB xm xd, .slice O m od], .agg #[.int .u8 bu0, .int .u8 bu1]] w fun e w' => e = .returned (.bool true) ∧ Below w.heap.size w w' := by
  obtain ⟨W, hW⟩ : ∃ W, ((w.alloc (.cells #[.int .i64 klo, .int .i64 khi, .slice A n ca] 26)).alloc (.cells #[.slice XA xn xc, .slice XB xm xd, .slice O m od] 32)).alloc (.cells #[.int .u8 bu0, .int .u8 bu1] 33) = W := ⟨_, rfl⟩
  have X : Blk W w.heap.size 26 #[.int .i64 klo, .int .i64 khi, .slice A n ca] := by rw [← hW]; exact ((Blk.new _ _ _ rfl).alloc _).alloc _
  have Z : Blk W (w.heap.size + 1) 32 #[.slice XA xn xc, .slice XB xm xd, .slice O m od] := by rw [← hW]; exact (Blk.new _ _ _ (by simp)).alloc _
  have U : Blk W (w.heap.size + 1 + 1) 33 #[.int .u8 bu0, .int .u8 bu1] := by rw [← hW]; exact Blk.new _ _ _ (by simp)
  have hBW : Below w.heap.size w W := by rw [← hW]; exact bl_alloc (bl_alloc (bl_alloc (Below.refl _ _) _ (Nat.le_refl _)) _ (Nat.le_refl _)) _ (Nat.le_refl _)
  have HG : Hid (∀ V, Below W.heap.size W V → Moulds (fun _ => True) V A n s.moulds) := fun V hb => (g.keep MouldR.good (Keeps.below hBW)).keep MouldR.good (Keeps.below hb)
  have HXS : Hid (∀ V, Below W.heap.size W V → Bytes (fun _ => True) V XA xn xs) := fun V hb => (hX.keep ByteR.good (Keeps.below hBW)).keep ByteR.good (Keeps.below hb)
  have HYS : Hid (∀ V, Below W.heap.size W V → Bytes (fun _ => True) V XB xm ys) := fun V hb => (hY.keep ByteR.good (Keeps.below hBW)).keep ByteR.good (Keeps.below hb)
  have HPS : Hid (∀ V, Below W.heap.size W V → Pairs (fun _ => True) V O m p) := fun V hb => (hP.keep PairR.good (Keeps.below hBW)).keep PairR.good (Keeps.below hb)
  have kk : Hid (∀ V, Below W.heap.size W V → V.cell? ⟨w.heap.size, 0, none⟩ = some (.int .i64 klo) ∧ V.cell? ⟨w.heap.size, 1, none⟩ = some (.int .i64 khi) ∧ V.cell? ⟨w.heap.size, 2, none⟩ = some (.slice A n ca) ∧ V.cell? ⟨w.heap.size + 1, 0, none⟩ = some (.slice XA xn xc) ∧ V.cell? ⟨w.heap.size + 1, 1, none⟩ = some (.slice XB xm xd) ∧ V.cell? ⟨w.heap.size + 1, 2, none⟩ = some (.slice O m od) ∧ V.cell? ⟨w.heap.size + 1 + 1, 0, none⟩ = some (.int .u8 bu0) ∧ V.cell? ⟨w.heap.size + 1 + 1, 1, none⟩ = some (.int .u8 bu1)) :=
    fun V hb => ⟨(X.bl hb).cell 0, (X.bl hb).cell 1, (X.bl hb).cell 2, (Z.bl hb).cell 0, (Z.bl hb).cell 1, (Z.bl hb).cell 2, (U.bl hb).cell 0, (U.bl hb).cell 1⟩
  have Hn := Lib.hid g.len
  have Hm := Lib.hid hP.len
  have hnl := g.le
  have hml := hP.le
  clear X Z U g hX hY hP
  obtain ⟨x0, x1, x2, y0, y1, y2, y3, y4⟩ := kk.out W (Below.refl _ _)
  go_enter Try.func3, Try.ntmps3
  go_wp2_with fail
  clear hW x0 x1 x2 y0 y1 y2 y3 y4
  obtain ⟨WW, hWW⟩ : ∃ V, V = W := ⟨_, rfl⟩
  subst hWW
  refine (valid7_any WW (HG.out WW (Below.refl _ _)) h1 h2).mono ?_
  rintro e V1 ⟨rfl, b1⟩
  by_cases he : err7 s = 0
  · have heb : (err7 s == 0) = true := by rw [he]; rfl
    rw [heb]
    have HE : Hid ((check7 s).2.2 = 0) := he
    have hok := okS_of HE.out
    have HOK := Lib.hid hok
    have HTR := Lib.hid (any_truth hok xs)
    obtain ⟨k0, hk0⟩ : ∃ x, anyS7 s xs = x := ⟨_, rfl⟩
    obtain ⟨tw, htw⟩ : ∃ x, anyT7 s xs = x := ⟨_, rfl⟩
    rw [hk0, htw] at HTR
    have HBD := Lib.hid (truth_bd hok HTR.out)
    have HKB := Lib.hid (truth_k hok HTR.out)
    obtain ⟨l, hl⟩ : ∃ x, toldL7 s k0 tw ys = x := ⟨_, rfl⟩
    have HSI : Hid (∀ y ∈ l, SeenIn s k0 tw y) := by rw [← hl]; exact toldL_seen hok HTR.out ys
    have HL6 : Hid (l.length ≤ 6) := by rw [← hl]; exact toldL_len _ _ _ _
    have HA : Hid (∀ V, Below WW.heap.size WW V → Calls Try.prog 9 #[.agg #[.int .i64 klo, .int .i64 khi, .slice A n ca], .slice XA xn xc] V fun e w' => (∃ v, e = .returned v ∧ TruthV V.heap.size k0 tw v w') ∧ Below V.heap.size V w') := fun V hb => by
      have := any7_any (ca := ca) (cc := xc) V (HG.out V hb) (HXS.out V hb) h1 h2 HOK.out
      rw [hk0, htw] at this
      exact this.mono fun e w' h => ⟨TruthV.of h.1, h.2⟩
    have HT : Hid (∀ (V : World) (B : Nat) (v : Value), Below WW.heap.size WW V → TruthV B k0 tw v V → Calls Try.prog 8 #[.agg #[.int .i64 klo, .int .i64 khi, .slice A n ca], v, .slice XB xm xd] V fun e w' => (∃ v, e = .returned v ∧ SeensW V.heap.size l v w') ∧ Below V.heap.size V w') := fun V B v hb hv => by
      obtain ⟨D, dc, rfl, hD⟩ := hv
      have := told7_cap (klo := klo) (khi := khi) (ca := ca) (cc := xd) (dc := dc) V (HG.out V hb) (HYS.out V hb) (hD.mono PairR.good (T := fun _ => True) (fun _ _ => trivial)) HOK.out (HTR.out.len) HBD.out HKB.out
      rw [hl] at this
      exact this.mono fun e w' h => ⟨SeensW.of h.1, h.2⟩
    have HB1 := Lib.hid b1
    clear hk0 htw hl he heb b1
    go_wp2_with fail
    refine wp_frameT ?_
    intro a0 ha0
    have tb3 : a0.tmps[3]? = some (.pointer (some ⟨w.heap.size, 0, none⟩)) := by rw [ha0]; kernel_rfl
    have tb4 : a0.tmps[4]? = some (.pointer (some ⟨w.heap.size + 1, 0, none⟩)) := by rw [ha0]; kernel_rfl
    have hsz : a0.tmps.size = 197 := by rw [ha0]; kernel_rfl
    refine wp_region_list (fun W => Below V1.heap.size V1 W) (fun w w' => Below w.heap.size w w')
      [isV (.agg #[.int .i64 klo, .int .i64 khi, .slice A n ca]), isV (.agg #[.int .i64 klo, .int .i64 khi, .slice A n ca]), isV (.pointer (some ⟨w.heap.size + 1, 0, none⟩)), isV (.pointer (some ⟨w.heap.size + 1, 0, none⟩)), isV (.slice XA xn xc), TruthV V1.heap.size k0 tw, isV (.pointer (some ⟨w.heap.size + 1, 0, none⟩)), isV (.pointer (some ⟨w.heap.size + 1, 1, none⟩)), isV (.slice XB xm xd), SeensW V1.heap.size l]
      (by kernel_rfl) (by kernel_rfl) (by kernel_rfl) (by simp) (by simp) (Below.refl _ _).drew ?stabA ?stepA ?finA
    case stabA => exact (StabL.is (StabL.is (StabL.is (StabL.is (StabL.is (StabL.cons (fun v W V hC hX h => h.bl hX) (StabL.is (StabL.is (StabL.is (StabL.cons (fun v W V hC hX h => h.bl hX) StabL.nil))))))))))
    case stepA =>
      refine StepsL.isA ?_ (StepsL.isA ?_ (StepsL.isA ?_ (StepsL.isA ?_ (StepsL.isA ?_ (StepsL.consA ?_ (StepsL.isA ?_ (StepsL.isA ?_ (StepsL.isA ?_ (StepsL.consA ?_ StepsL.nil)))))))))
      · -- 0
        intro vs a W K ha hC hD hU hK
        have r3 : a.tmps[3]? = some (.pointer (some ⟨w.heap.size, 0, none⟩)) := by rw [ha, fillA_base0 (by kernel_rfl)]; exact tb3
        clear ha hU hD ha0
        rw [if_pos (by rfl)]
        obtain ⟨k1, k2, k3, k4, k5, k6, k7, k8⟩ := kk.out W (bl_call HB1.out hC (Nat.le_refl _))
        go_simp
        exact hK _ hC (Below.refl _ _)
      · -- 1
        intro vs a W K ha hC hD hU hK
        have r3 : a.tmps[3]? = some (.pointer (some ⟨w.heap.size, 0, none⟩)) := by rw [ha, fillA_base0 (by kernel_rfl)]; exact tb3
        clear ha hU hD ha0
        rw [if_pos (by rfl)]
        obtain ⟨k1, k2, k3, k4, k5, k6, k7, k8⟩ := kk.out W (bl_call HB1.out hC (Nat.le_refl _))
        go_simp
        exact hK _ hC (Below.refl _ _)
      · -- 2
        intro vs a W K ha hC hD hU hK
        have r4 : a.tmps[4]? = some (.pointer (some ⟨w.heap.size + 1, 0, none⟩)) := by rw [ha, fillA_base0 (by kernel_rfl)]; exact tb4
        clear ha hU hD ha0
        rw [if_pos (by rfl)]
        go_simp
        exact hK _ hC (Below.refl _ _)
      · -- 3
        intro vs a W K ha hC hD hU hK
        have r33 : a.tmps[33]? = some (vs 2) := by rw [ha]; exact fillA_get0 (j := 2) (by kernel_rfl) (by rw [hsz]; decide)
        have q2 : vs 2 = .pointer (some ⟨w.heap.size + 1, 0, none⟩) := hD 2 (by simp [waits, Region.binds])
        rw [q2] at r33
        clear ha hU hD ha0
        rw [if_pos (by rfl)]
        go_simp
        exact hK _ hC (Below.refl _ _)
      · -- 4
        intro vs a W K ha hC hD hU hK
        have r34 : a.tmps[34]? = some (vs 3) := by rw [ha]; exact fillA_get0 (j := 3) (by kernel_rfl) (by rw [hsz]; decide)
        have q3 : vs 3 = .pointer (some ⟨w.heap.size + 1, 0, none⟩) := hD 3 (by simp [waits, Region.binds])
        rw [q3] at r34
        clear ha hU hD ha0
        rw [if_pos (by rfl)]
        obtain ⟨k1, k2, k3, k4, k5, k6, k7, k8⟩ := kk.out W (bl_call HB1.out hC (Nat.le_refl _))
        go_simp
        exact hK _ hC (Below.refl _ _)
      · -- 5
        intro vs a W K ha hC hD hU hK
        have r32 : a.tmps[32]? = some (vs 1) := by rw [ha]; exact fillA_get0 (j := 1) (by kernel_rfl) (by rw [hsz]; decide)
        have q1 : vs 1 = .agg #[.int .i64 klo, .int .i64 khi, .slice A n ca] := hD 1 (by simp [waits, Region.binds])
        rw [q1] at r32
        have r35 : a.tmps[35]? = some (vs 4) := by rw [ha]; exact fillA_get0 (j := 4) (by kernel_rfl) (by rw [hsz]; decide)
        have q4 : vs 4 = .slice XA xn xc := hD 4 (by simp [waits, Region.binds])
        rw [q4] at r35
        clear ha hU hD ha0
        rw [if_pos (by rfl)]
        go_simp
        refine (HA.out W (bl_call HB1.out hC (Nat.le_refl _))).mono ?_
        rintro e w' ⟨⟨v, rfl, hv⟩, hb⟩
        exact hK _ _ (bl_call hC hb (Nat.le_refl _)) hb (hv.low hC.size)
      · -- 6
        intro vs a W K ha hC hD hU hK
        have r4 : a.tmps[4]? = some (.pointer (some ⟨w.heap.size + 1, 0, none⟩)) := by rw [ha, fillA_base0 (by kernel_rfl)]; exact tb4
        clear ha hU hD ha0
        rw [if_pos (by rfl)]
        go_simp
        exact hK _ hC (Below.refl _ _)
      · -- 7
        intro vs a W K ha hC hD hU hK
        have r37 : a.tmps[37]? = some (vs 6) := by rw [ha]; exact fillA_get0 (j := 6) (by kernel_rfl) (by rw [hsz]; decide)
        have q6 : vs 6 = .pointer (some ⟨w.heap.size + 1, 0, none⟩) := hD 6 (by simp [waits, Region.binds])
        rw [q6] at r37
        clear ha hU hD ha0
        rw [if_pos (by rfl)]
        go_simp
        exact hK _ hC (Below.refl _ _)
      · -- 8
        intro vs a W K ha hC hD hU hK
        have r38 : a.tmps[38]? = some (vs 7) := by rw [ha]; exact fillA_get0 (j := 7) (by kernel_rfl) (by rw [hsz]; decide)
        have q7 : vs 7 = .pointer (some ⟨w.heap.size + 1, 1, none⟩) := hD 7 (by simp [waits, Region.binds])
        rw [q7] at r38
        clear ha hU hD ha0
        rw [if_pos (by rfl)]
        obtain ⟨k1, k2, k3, k4, k5, k6, k7, k8⟩ := kk.out W (bl_call HB1.out hC (Nat.le_refl _))
        go_simp
        exact hK _ hC (Below.refl _ _)
      · -- 9
        intro vs a W K ha hC hD hU hK
        have r31 : a.tmps[31]? = some (vs 0) := by rw [ha]; exact fillA_get0 (j := 0) (by kernel_rfl) (by rw [hsz]; decide)
        have q0 : vs 0 = .agg #[.int .i64 klo, .int .i64 khi, .slice A n ca] := hD 0 (by simp [waits, Region.binds])
        rw [q0] at r31
        have r36 : a.tmps[36]? = some (vs 5) := by rw [ha]; exact fillA_get0 (j := 5) (by kernel_rfl) (by rw [hsz]; decide)
        have P5 : TruthV V1.heap.size k0 tw (vs 5) W := hD 5 (by simp [waits, Region.binds])
        obtain ⟨D36, d36, e36, hI36⟩ := P5
        rw [e36] at r36
        have r39 : a.tmps[39]? = some (vs 8) := by rw [ha]; exact fillA_get0 (j := 8) (by kernel_rfl) (by rw [hsz]; decide)
        have q8 : vs 8 = .slice XB xm xd := hD 8 (by simp [waits, Region.binds])
        rw [q8] at r39
        clear ha hU hD ha0
        rw [if_pos (by rfl)]
        go_simp
        refine (HT.out W V1.heap.size _ (bl_call HB1.out hC (Nat.le_refl _)) ⟨_, _, rfl, hI36⟩).mono ?_
        rintro e w' ⟨⟨v, rfl, hv⟩, hb⟩
        exact hK _ _ (bl_call hC hb (Nat.le_refl _)) hb (hv.low hC.size)
    case finA =>
      intro vs W hC hE hU
      rw [ha0]
      clear hU hsz tb3 tb4
      have E9 : SeensW V1.heap.size l (vs 9) W := hE 9 (by simp)
      simp only [fillA, Act.put, List.setIfInBounds_toArray, List.set_cons_zero, List.set_cons_succ, Nat.zero_add, Nat.reduceAdd]
      obtain ⟨C, cc, e9, hS, hqc⟩ := E9
      rw [e9]
      obtain ⟨u0, hu0⟩ : ∃ v0, vs 0 = v0 := ⟨_, rfl⟩
      obtain ⟨u1, hu1⟩ : ∃ v0, vs 1 = v0 := ⟨_, rfl⟩
      obtain ⟨u2, hu2⟩ : ∃ v0, vs 2 = v0 := ⟨_, rfl⟩
      obtain ⟨u3, hu3⟩ : ∃ v0, vs 3 = v0 := ⟨_, rfl⟩
      obtain ⟨u4, hu4⟩ : ∃ v0, vs 4 = v0 := ⟨_, rfl⟩
      obtain ⟨u5, hu5⟩ : ∃ v0, vs 5 = v0 := ⟨_, rfl⟩
      obtain ⟨u6, hu6⟩ : ∃ v0, vs 6 = v0 := ⟨_, rfl⟩
      obtain ⟨u7, hu7⟩ : ∃ v0, vs 7 = v0 := ⟨_, rfl⟩
      obtain ⟨u8, hu8⟩ : ∃ v0, vs 8 = v0 := ⟨_, rfl⟩
      rw [hu0, hu1, hu2, hu3, hu4, hu5, hu6, hu7, hu8]
      clear hu0 hu1 hu2 hu3 hu4 hu5 hu6 hu7 hu8
      clear hE e9 HA HT
      obtain ⟨q, hq⟩ : ∃ x, l.length = x := ⟨_, rfl⟩
      rw [hq] at hS hqc
      rw [hq]
      have HS : Hid (∀ V, Below W.heap.size W V → SeenCs (fun _ => True) V C q l) := fun V hb => (hS.keep SeenCR.good (Keeps.below hb)).mono SeenCR.good (fun _ _ => trivial)
      have HB4 : Hid (Below WW.heap.size WW W) := bl_call HB1.out hC (Nat.le_refl _)
      have HSN : Hid (seen7 s l = (0, 0)) := seen_ok HE.out HL6.out HSI.out
      have HQL := Lib.hid hq
      have hq6 : q ≤ 6 := by rw [← HQL.out]; exact HL6.out
      clear hq hS hC HB1
      obtain ⟨V4, hV4⟩ : ∃ V, V = W := ⟨_, rfl⟩
      subst hV4
      obtain ⟨x0, x1, x2, _, _, y2, _, _⟩ := kk.out V4 HB4.out
      rcases Nat.eq_zero_or_pos q with hq0 | hqp
      · subst hq0
        go_simp
        go_wp2_with fail
        clear x0 x1 x2 y2
        refine (awake7_any V4).mono ?_
        rintro e V5 ⟨rfl, c5⟩
        have b5 := bl_call hBW (bl_call HB4.out c5 (Nat.le_refl _)) (Nat.le_refl _)
        clear c5
        go_wp2
        go_ret
        exact ⟨by rfl, b5⟩
      · have hq0n : ¬ q = 0 := by omega
        have hqi : ((q : Int) == 0) = false := by simp; omega
        go_simp
        go_wp2_with fail
        clear x0 x1 x2 y2
        refine (rorder7_any V4 (HG.out V4 HB4.out) (HS.out V4 (Below.refl _ _)) (HPS.out V4 HB4.out) h1 h2).mono ?_
        rintro e V5 ⟨rfl, c5⟩
        have HB5 : Hid (Below WW.heap.size WW V5) := bl_call HB4.out c5 (Nat.le_refl _)
        have H45 : Hid (Below V4.heap.size V4 V5) := c5
        clear c5
        by_cases h0 : orderE s l p = 0
        · have H00 := Lib.hid h0
          obtain ⟨_, hne, hp1, hp6⟩ := order_zero h0
          have hparts := order_parts h0
          rw [Hm.out] at hp1 hp6
          rw [h0]
          obtain ⟨l2, hl2⟩ : ∃ x, l.take (q - 1) = x := ⟨_, rfl⟩
          have hsub : ∀ y ∈ l2, y ∈ l := fun y hy => by rw [← hl2] at hy; exact List.mem_of_mem_take hy
          have HSUB := Lib.hid hsub
          obtain ⟨q2, hq2⟩ : ∃ q2 : Nat, q - 1 = q2 := ⟨_, rfl⟩
          have hlen2 : l2.length = q2 := by rw [← hl2, List.length_take, HQL.out]; omega
          have HSN2 : Hid (seen7 s l2 = (0, 0)) := seen_ok HE.out (by omega) (fun y hy => HSI.out y (hsub y hy))
          have hkn2 := truth_known HOK.out HTR.out (fun y hy => HSI.out y (hsub y hy))
          have hne2 := List.ne_nil_of_mem hkn2
          have HNE := Lib.hid hne
          have HNE2 := Lib.hid hne2
          have hord2 : orderE s l2 p = 0 := order_of (by rw [HSN2.out]) hne2 (by rw [Hm.out]; exact hp1) (by rw [Hm.out]; exact hp6) hparts.2
          have HPL := Lib.hid (plans_more hsub h0 hord2)
          have HS2 : Hid (∀ V, Below V4.heap.size V4 V → SeenCs (fun _ => True) V C q2 l2) := fun V hb => by rw [← hl2, ← hq2]; exact (HS.out V hb).take (by omega)
          have HSZ : Hid (∀ m c : Nat, m < n → c < castsN s m → ∃ a b a' b', sizesR s l2 m c = ((a, b), 0) ∧ sizesR s l m c = ((a', b'), 0) ∧ a ≤ a' ∧ b' ≤ b) := fun m c hm hc => by
            rw [← Hn.out] at hm
            have h := size_sub HOK.out hsub hne hm (c : Int)
            exact ⟨_, _, _, _, sizesR_in (by rw [HSN2.out]) HOK.out hm hc hne2, sizesR_in (by rw [HSN.out]) HOK.out hm hc hne, h.1, h.2⟩
          have HFT : Hid (∀ k, k < m → ∃ L L2, fitsR s l2 (p.getD k (0, 0)).1 (p.getD k (0, 0)).2 = (L2, 0) ∧ fitsR s l (p.getD k (0, 0)).1 (p.getD k (0, 0)).2 = (L, 0) ∧ ∀ x ∈ L2, x ∈ L) := fun k hk => by
            have hr := hparts.2 k (by rw [Hm.out]; exact hk)
            exact ⟨_, _, fitsR_n (by rw [HSN2.out]) hr hne2, fitsR_n (by rw [HSN.out]) hr hne, fun x hx => fit_sub HOK.out hsub hne hx⟩
          have hn4 : n ≤ 4 := by rw [← Hn.out]; exact HOK.out.nm.2
          have hn1 : 1 ≤ n := by rw [← Hn.out]; exact HOK.out.nm.1
          obtain ⟨mm, hmm⟩ : ∃ m, bu0 % n = m := ⟨_, rfl⟩
          have hmn : mm < n := by rw [← hmm]; exact Nat.mod_lt _ (by omega)
          have ht0 : ((bu0 : Int)).tmod (n : Int) = (mm : Int) := by rw [Int.tmod_eq_emod_of_nonneg (by omega), ← hmm]; rfl
          obtain ⟨bM, oM, sn, ma, mz, my, mu, ct, hAe, hbM, e0, e1, e2, e3, e4, e5, hss, HxM⟩ := Moulds.get (HG.out V5 HB5.out) hmn
          subst hAe
          have hcs := castsN_bd HOK.out (m := mm) (by rw [Hn.out]; exact hmn)
          rw [getD_of HxM.out] at hcs
          dsimp only at hcs
          obtain ⟨hcs1, hcs8, hcsE⟩ := hcs
          subst hcsE
          obtain ⟨cn, hcn⟩ : ∃ x, castsN s mm = x := ⟨_, rfl⟩
          rw [hcn] at hcs1 hcs8 e5
          have HCN := Lib.hid hcn
          obtain ⟨m1, hm1⟩ : ∃ m1, bu1 % cn = m1 := ⟨_, rfl⟩
          have hmc : m1 < cn := by rw [← hm1]; exact Nat.mod_lt _ (by omega)
          have ht1 : ((bu1 : Int)).tmod (cn : Int) = (m1 : Int) := by rw [Int.tmod_eq_emod_of_nonneg (by omega), ← hm1]; rfl
          have cv0 : IntKind.i64.wrap (bu0 : Int) = bu0 := by rw [IntKind.wrap_i64]; omega
          have cv1 : IntKind.i64.wrap (bu1 : Int) = bu1 := by rw [IntKind.wrap_i64]; omega
          have cm0 : IntKind.i64.wrap (mm : Int) = mm := by rw [IntKind.wrap_i64]; omega
          have cm1 : IntKind.i64.wrap (m1 : Int) = m1 := by rw [IntKind.wrap_i64]; omega
          have hdz : ¬ (n : Int) = 0 := by omega
          have hdn : ¬ n = 0 := by omega
          have hdz2 : ((n : Int) == 0) = false := by simp; omega
          have hdc : ¬ (cn : Int) = 0 := by omega
          have hdcn : ¬ cn = 0 := by omega
          have hdc2 : ((cn : Int) == 0) = false := by simp; omega
          have hwq : IntKind.i64.wrap ((q : Int) - 1) = (q2 : Int) := by rw [IntKind.wrap_i64]; omega
          have hq2q : q2 ≤ q := by omega
          have hq2c : q2 ≤ cc := by omega
          have hq2ci : (q2 : Int) ≤ (cc : Int) := by omega
          have hq2i : (q2 : Int) ≤ (q : Int) := by omega
          have E5 := Lib.hid e5
          obtain ⟨x0, x1, x2, _, _, y2, y3, y4⟩ := kk.out V5 HB5.out
          have hmi : (mm : Int) < n := by omega
          clear h0 hne hparts hsub hlen2 hkn2 hne2 hord2 hl2 hmm hm1 hcn hss hbM e0 e1 e2 e3 e4 e5
          go_wp2_with fail
          clear x0 x1 x2 y2 y3 y4
          refine wp_frameT ?_
          intro a0 ha0
          have tb3 : a0.tmps[3]? = some (.pointer (some ⟨w.heap.size, 0, none⟩)) := by rw [ha0]; kernel_rfl
          have tb5 : a0.tmps[5]? = some (.pointer (some ⟨w.heap.size + 1 + 1, 0, none⟩)) := by rw [ha0]; kernel_rfl
          have tb9 : a0.tmps[9]? = some (.int .i64 (mm : Int)) := by rw [ha0]; kernel_rfl
          have hsz : a0.tmps.size = 197 := by rw [ha0]; kernel_rfl
          refine wp_region_list (fun W => Below V5.heap.size V5 W) (fun w w' => Below w.heap.size w w')
            [isV (.int .i64 (mm : Int)), isV (.pointer (some ⟨w.heap.size + 1 + 1, 1, none⟩)), isV (.int .u8 (bu1 : Int)), isV (.int .i64 (bu1 : Int)), isV (.pointer (some ⟨w.heap.size, 2, none⟩)), isV (.slice (some ⟨bM, oM, none⟩) n ca), isV (.int .i64 (mm : Int)), isV (.pointer (some ⟨bM, oM + mm * 6, none⟩)), isV (.pointer (some ⟨bM, oM + mm * 6 + 5, none⟩)), isV (.int .i64 (cn : Int)), isV (.int .i64 (m1 : Int)), isV (.agg #[.int .i64 (mm : Int), .int .i64 (m1 : Int)]), NewPlB V5.heap.size]
            (by kernel_rfl) (by kernel_rfl) (by kernel_rfl) (by simp) (by simp) (Below.refl _ _).drew ?stabP ?stepP ?finP
          case stabP => exact (StabL.is (StabL.is (StabL.is (StabL.is (StabL.is (StabL.is (StabL.is (StabL.is (StabL.is (StabL.is (StabL.is (StabL.is (StabL.cons (fun v W V hC hX h => h.bl hX) StabL.nil)))))))))))))
          case stepP =>
            refine StepsL.isA ?_ (StepsL.isA ?_ (StepsL.isA ?_ (StepsL.isA ?_ (StepsL.isA ?_ (StepsL.isA ?_ (StepsL.isA ?_ (StepsL.isA ?_ (StepsL.isA ?_ (StepsL.isA ?_ (StepsL.isA ?_ (StepsL.isA ?_ (StepsL.consA ?_ StepsL.nil))))))))))))
            · -- 0
              intro vs a W K ha hC hD hU hK
              have r9 : a.tmps[9]? = some (.int .i64 (mm : Int)) := by rw [ha, fillA_base0 (by kernel_rfl)]; exact tb9
              clear ha hU hD ha0
              rw [if_pos (by rfl)]
              go_simp
              exact hK _ hC (Below.refl _ _)
            · -- 1
              intro vs a W K ha hC hD hU hK
              have r5 : a.tmps[5]? = some (.pointer (some ⟨w.heap.size + 1 + 1, 0, none⟩)) := by rw [ha, fillA_base0 (by kernel_rfl)]; exact tb5
              clear ha hU hD ha0
              rw [if_pos (by rfl)]
              go_simp
              exact hK _ hC (Below.refl _ _)
            · -- 2
              intro vs a W K ha hC hD hU hK
              have r66 : a.tmps[66]? = some (vs 1) := by rw [ha]; exact fillA_get0 (j := 1) (by kernel_rfl) (by rw [hsz]; decide)
              have q1 : vs 1 = .pointer (some ⟨w.heap.size + 1 + 1, 1, none⟩) := hD 1 (by simp [waits, Region.binds])
              rw [q1] at r66
              clear ha hU hD ha0
              rw [if_pos (by rfl)]
              obtain ⟨k1, k2, k3, k4, k5, k6, k7, k8⟩ := kk.out W (bl_call HB5.out hC (Nat.le_refl _))
              have ke5 := getc hC E5.out
              go_simp
              exact hK _ hC (Below.refl _ _)
            · -- 3
              intro vs a W K ha hC hD hU hK
              have r67 : a.tmps[67]? = some (vs 2) := by rw [ha]; exact fillA_get0 (j := 2) (by kernel_rfl) (by rw [hsz]; decide)
              have q2 : vs 2 = .int .u8 (bu1 : Int) := hD 2 (by simp [waits, Region.binds])
              rw [q2] at r67
              clear ha hU hD ha0
              rw [if_pos (by rfl)]
              go_simp
              exact hK _ hC (Below.refl _ _)
            · -- 4
              intro vs a W K ha hC hD hU hK
              have r3 : a.tmps[3]? = some (.pointer (some ⟨w.heap.size, 0, none⟩)) := by rw [ha, fillA_base0 (by kernel_rfl)]; exact tb3
              clear ha hU hD ha0
              rw [if_pos (by rfl)]
              go_simp
              exact hK _ hC (Below.refl _ _)
            · -- 5
              intro vs a W K ha hC hD hU hK
              have r69 : a.tmps[69]? = some (vs 4) := by rw [ha]; exact fillA_get0 (j := 4) (by kernel_rfl) (by rw [hsz]; decide)
              have q4 : vs 4 = .pointer (some ⟨w.heap.size, 2, none⟩) := hD 4 (by simp [waits, Region.binds])
              rw [q4] at r69
              clear ha hU hD ha0
              rw [if_pos (by rfl)]
              obtain ⟨k1, k2, k3, k4, k5, k6, k7, k8⟩ := kk.out W (bl_call HB5.out hC (Nat.le_refl _))
              have ke5 := getc hC E5.out
              go_simp
              exact hK _ hC (Below.refl _ _)
            · -- 6
              intro vs a W K ha hC hD hU hK
              have r9 : a.tmps[9]? = some (.int .i64 (mm : Int)) := by rw [ha, fillA_base0 (by kernel_rfl)]; exact tb9
              clear ha hU hD ha0
              rw [if_pos (by rfl)]
              go_simp
              exact hK _ hC (Below.refl _ _)
            · -- 7
              intro vs a W K ha hC hD hU hK
              have r70 : a.tmps[70]? = some (vs 5) := by rw [ha]; exact fillA_get0 (j := 5) (by kernel_rfl) (by rw [hsz]; decide)
              have q5 : vs 5 = .slice (some ⟨bM, oM, none⟩) n ca := hD 5 (by simp [waits, Region.binds])
              rw [q5] at r70
              have r71 : a.tmps[71]? = some (vs 6) := by rw [ha]; exact fillA_get0 (j := 6) (by kernel_rfl) (by rw [hsz]; decide)
              have q6 : vs 6 = .int .i64 (mm : Int) := hD 6 (by simp [waits, Region.binds])
              rw [q6] at r71
              clear ha hU hD ha0
              rw [if_pos (by rfl)]
              go_simp
              exact hK _ hC (Below.refl _ _)
            · -- 8
              intro vs a W K ha hC hD hU hK
              have r72 : a.tmps[72]? = some (vs 7) := by rw [ha]; exact fillA_get0 (j := 7) (by kernel_rfl) (by rw [hsz]; decide)
              have q7 : vs 7 = .pointer (some ⟨bM, oM + mm * 6, none⟩) := hD 7 (by simp [waits, Region.binds])
              rw [q7] at r72
              clear ha hU hD ha0
              rw [if_pos (by rfl)]
              go_simp
              exact hK _ hC (Below.refl _ _)
            · -- 9
              intro vs a W K ha hC hD hU hK
              have r73 : a.tmps[73]? = some (vs 8) := by rw [ha]; exact fillA_get0 (j := 8) (by kernel_rfl) (by rw [hsz]; decide)
              have q8 : vs 8 = .pointer (some ⟨bM, oM + mm * 6 + 5, none⟩) := hD 8 (by simp [waits, Region.binds])
              rw [q8] at r73
              clear ha hU hD ha0
              rw [if_pos (by rfl)]
              obtain ⟨k1, k2, k3, k4, k5, k6, k7, k8⟩ := kk.out W (bl_call HB5.out hC (Nat.le_refl _))
              have ke5 := getc hC E5.out
              go_simp
              exact hK _ hC (Below.refl _ _)
            · -- 10
              intro vs a W K ha hC hD hU hK
              have r68 : a.tmps[68]? = some (vs 3) := by rw [ha]; exact fillA_get0 (j := 3) (by kernel_rfl) (by rw [hsz]; decide)
              have q3 : vs 3 = .int .i64 (bu1 : Int) := hD 3 (by simp [waits, Region.binds])
              rw [q3] at r68
              have r74 : a.tmps[74]? = some (vs 9) := by rw [ha]; exact fillA_get0 (j := 9) (by kernel_rfl) (by rw [hsz]; decide)
              have q9 : vs 9 = .int .i64 (cn : Int) := hD 9 (by simp [waits, Region.binds])
              rw [q9] at r74
              clear ha hU hD ha0
              rw [if_pos (by rfl)]
              go_simp
              exact hK _ hC (Below.refl _ _)
            · -- 11
              intro vs a W K ha hC hD hU hK
              have r65 : a.tmps[65]? = some (vs 0) := by rw [ha]; exact fillA_get0 (j := 0) (by kernel_rfl) (by rw [hsz]; decide)
              have q0 : vs 0 = .int .i64 (mm : Int) := hD 0 (by simp [waits, Region.binds])
              rw [q0] at r65
              have r75 : a.tmps[75]? = some (vs 10) := by rw [ha]; exact fillA_get0 (j := 10) (by kernel_rfl) (by rw [hsz]; decide)
              have q10 : vs 10 = .int .i64 (m1 : Int) := hD 10 (by simp [waits, Region.binds])
              rw [q10] at r75
              clear ha hU hD ha0
              rw [if_pos (by rfl)]
              go_simp
              refine (at7_any (mm : Int) (m1 : Int) W).mono ?_
              rintro e w' ⟨rfl, hb⟩
              exact hK _ (bl_call hC hb (Nat.le_refl _)) hb
            · -- 12
              intro vs a W K ha hC hD hU hK
              clear ha hU hD ha0
              rw [if_pos (by rfl)]
              go_simp
              exact hK _ _ (bl_alloc hC _ (Nat.le_refl _)) (bl_alloc (Below.refl _ _) _ (Nat.le_refl _)) ⟨_, hC.size, rfl, Blk.new _ _ _ rfl⟩
          case finP =>
            intro vs W hC hE hU
            rw [ha0]
            clear hU hsz tb3 tb5 tb9
            have e11 : vs 11 = .agg #[.int .i64 (mm : Int), .int .i64 (m1 : Int)] := hE 11 (by simp)
            have E12 : NewPlB V5.heap.size (vs 12) W := hE 12 (by simp)
            simp only [fillA, Act.put, List.setIfInBounds_toArray, List.set_cons_zero, List.set_cons_succ, Nat.zero_add, Nat.reduceAdd, e11]
            obtain ⟨gP, hgP, e12, hP⟩ := E12
            rw [e12]
            obtain ⟨u0, hu0⟩ : ∃ v0, vs 0 = v0 := ⟨_, rfl⟩
            obtain ⟨u1, hu1⟩ : ∃ v0, vs 1 = v0 := ⟨_, rfl⟩
            obtain ⟨u2, hu2⟩ : ∃ v0, vs 2 = v0 := ⟨_, rfl⟩
            obtain ⟨u3, hu3⟩ : ∃ v0, vs 3 = v0 := ⟨_, rfl⟩
            obtain ⟨u4, hu4⟩ : ∃ v0, vs 4 = v0 := ⟨_, rfl⟩
            obtain ⟨u5, hu5⟩ : ∃ v0, vs 5 = v0 := ⟨_, rfl⟩
            obtain ⟨u6, hu6⟩ : ∃ v0, vs 6 = v0 := ⟨_, rfl⟩
            obtain ⟨u7, hu7⟩ : ∃ v0, vs 7 = v0 := ⟨_, rfl⟩
            obtain ⟨u8, hu8⟩ : ∃ v0, vs 8 = v0 := ⟨_, rfl⟩
            obtain ⟨u9, hu9⟩ : ∃ v0, vs 9 = v0 := ⟨_, rfl⟩
            obtain ⟨u10, hu10⟩ : ∃ v0, vs 10 = v0 := ⟨_, rfl⟩
            rw [hu0, hu1, hu2, hu3, hu4, hu5, hu6, hu7, hu8, hu9, hu10]
            clear hu0 hu1 hu2 hu3 hu4 hu5 hu6 hu7 hu8 hu9 hu10
            clear hE e11 e12
            have z0c := hP.cell 0
            have z1c := hP.cell 1
            have fz0 := hP.frozen 0
            have fz1 := hP.frozen 1
            have zl := hP.lt
            go_simp
            obtain ⟨Vb, hVb⟩ : ∃ V, (W.setCell ⟨gP, 0, none⟩ (.int .i64 (mm : Int))).setCell ⟨gP, 1, none⟩ (.int .i64 (m1 : Int)) = V := ⟨_, rfl⟩
            have HP : Hid (Blk Vb gP 45 #[.int .i64 (mm : Int), .int .i64 (m1 : Int)]) := by rw [Hid, ← hVb]; exact hP.set2 _ _
            have H5b : Hid (Below V5.heap.size V5 Vb) := by rw [Hid, ← hVb]; exact bl_set (bl_set hC hgP _) hgP _
            try rw [hVb]
            clear hVb hP hC z0c z1c fz0 fz1 zl hgP
            have HBb : Hid (Below WW.heap.size WW Vb) := bl_call HB5.out H5b.out (Nat.le_refl _)
            have H4b : Hid (Below V4.heap.size V4 Vb) := bl_call H45.out H5b.out (Nat.le_refl _)
            obtain ⟨x0, x1, x2, _, _, _, _, _⟩ := kk.out Vb HBb.out
            have pc0 := HP.out.cell 0
            have pc1 := HP.out.cell 1
            obtain ⟨sa, sb, ta, tb, hz1, hz2, hab, hbb⟩ := HSZ.out mm m1 hmn (by rw [HCN.out]; exact hmc)
            have HZ1 := Lib.hid hz1
            have HZ2 := Lib.hid hz2
            have hl1 : ¬ ta < sa := by omega
            have hl2 : ¬ sb < tb := by omega
            clear hz1 hz2
            go_wp2_with fail
            clear x0 x1 x2 pc0 pc1
            refine (ksizes_any (cc := cc) (mm : Int) (m1 : Int) Vb (HG.out Vb HBb.out) (HS2.out Vb H4b.out) hca h1 h2).mono ?_
            rw [HZ1.out]
            rintro e V10 ⟨rfl, c10⟩
            obtain ⟨gA, hgA⟩ : ∃ x, V10.heap.size = x := ⟨_, rfl⟩
            obtain ⟨V11, hV11⟩ : ∃ V, V10.alloc (.cells #[.int .i64 sa, .int .i64 sb] 23) = V := ⟨_, rfl⟩
            have SA : Blk V11 gA 23 #[.int .i64 sa, .int .i64 sb] := by rw [← hV11]; exact Blk.new _ _ _ hgA.symm
            have hb11 : Below Vb.heap.size Vb V11 := by rw [← hV11]; exact bl_alloc c10 _ (Nat.le_refl _)
            have HB11 : Hid (Below WW.heap.size WW V11) := bl_call HBb.out hb11 (Nat.le_refl _)
            have H411 : Hid (Below V4.heap.size V4 V11) := bl_call H4b.out hb11 (Nat.le_refl _)
            have HP11 := Lib.hid (HP.out.bl hb11)
            obtain ⟨x0, x1, x2, _, _, _, _, _⟩ := kk.out V11 HB11.out
            have pc0 := HP11.out.cell 0
            have pc1 := HP11.out.cell 1
            clear c10 hb11
            go_wp2_with fail
            clear x0 x1 x2 pc0 pc1 hV11 hgA
            refine (ksizes_any (cc := cc) (mm : Int) (m1 : Int) V11 (HG.out V11 HB11.out) (HS.out V11 H411.out) hca h1 h2).mono ?_
            rw [HZ2.out]
            rintro e V12 ⟨rfl, c12⟩
            obtain ⟨gB, hgB⟩ : ∃ x, V12.heap.size = x := ⟨_, rfl⟩
            obtain ⟨VL, hVL⟩ : ∃ V, V12.alloc (.cells #[.int .i64 ta, .int .i64 tb] 23) = V := ⟨_, rfl⟩
            have SB : Blk VL gB 23 #[.int .i64 ta, .int .i64 tb] := by rw [← hVL]; exact Blk.new _ _ _ hgB.symm
            have hbL : Below V11.heap.size V11 VL := by rw [← hVL]; exact bl_alloc c12 _ (Nat.le_refl _)
            have HBL : Hid (Below WW.heap.size WW VL) := bl_call HB11.out hbL (Nat.le_refl _)
            have H4L : Hid (Below V4.heap.size V4 VL) := bl_call H411.out hbL (Nat.le_refl _)
            have sA := SA.bl hbL
            have a0c := sA.cell 0
            have a1c := sA.cell 1
            have b0c := SB.cell 0
            have b1c := SB.cell 1
            clear c12 hbL
            go_wp2_with fail
            clear a0c a1c b0c b1c sA SA SB hVL hgB
            go_loopw [15] (fun i wr => ∃ k : Nat, k ≤ m ∧ i = .int .i64 k ∧ Hid (Below VL.heap.size VL wr)) (fun i _ => m - (intOf i).toNat)
            case atStart => exact ⟨0, Nat.zero_le _, rfl, Below.refl _ _⟩
            case round =>
              obtain ⟨k, hk, rfl, HBk⟩ := hrel
              have HBF0 : Hid (Below WW.heap.size WW wr) := bl_call HBL.out HBk.out (Nat.le_refl _)
              have HF40 : Hid (Below V4.heap.size V4 wr) := bl_call H4L.out HBk.out (Nat.le_refl _)
              obtain ⟨x0, x1, x2, _, _, y2, _, _⟩ := kk.out wr HBF0.out
              by_cases hlt : k < m
              · have hki : (k : Int) < m := by omega
                obtain ⟨L, L2, hf1, hf2, hLL⟩ := HFT.out k hlt
                obtain ⟨bO, oO, pa, pz, rfl, _, hcA, hcZ, HxP⟩ := Pairs.get (HPS.out wr HBF0.out) hlt
                rw [getD_of HxP.out] at hf1 hf2
                dsimp only at hf1 hf2
                have HF1 := Lib.hid hf1
                have HF2 := Lib.hid hf2
                have HLL := Lib.hid hLL
                clear hf1 hf2 hLL
                obtain ⟨WF, hWF⟩ : ∃ V, V = wr := ⟨_, rfl⟩
                subst hWF
                have HBF := HBF0
                have HF4 := HF40
                have kq : Hid (∀ V, Below WF.heap.size WF V → V.cell? ⟨w.heap.size, 0, none⟩ = some (.int .i64 klo) ∧ V.cell? ⟨w.heap.size, 1, none⟩ = some (.int .i64 khi) ∧ V.cell? ⟨w.heap.size, 2, none⟩ = some (.slice (some ⟨bM, oM, none⟩) n ca) ∧ V.cell? ⟨w.heap.size + 1, 2, none⟩ = some (.slice (some ⟨bO, oO, none⟩) m od) ∧ V.cell? ⟨bO, oO + k * 2, none⟩ = some (.int .i64 pa) ∧ V.cell? ⟨bO, oO + k * 2 + 1, none⟩ = some (.int .i64 pz)) := fun V hb => ⟨getc hb x0, getc hb x1, getc hb x2, getc hb y2, getc hb hcA, getc hb hcZ⟩
                go_wp2_with fail
                clear x0 x1 x2 y2 hcA hcZ
                refine wp_frameT ?_
                intro a0 ha0
                have tb3 : a0.tmps[3]? = some (.pointer (some ⟨w.heap.size, 0, none⟩)) := by rw [ha0]; kernel_rfl
                have tb4 : a0.tmps[4]? = some (.pointer (some ⟨w.heap.size + 1, 0, none⟩)) := by rw [ha0]; kernel_rfl
                have tb8 : a0.tmps[8]? = some (.slice C q2 cc) := by rw [ha0]; kernel_rfl
                have tb15 : a0.tmps[15]? = some (.int .i64 (k : Int)) := by rw [ha0]; kernel_rfl
                have hsz : a0.tmps.size = 197 := by rw [ha0]; kernel_rfl
                refine wp_region_list (fun W => Below WF.heap.size WF W) (fun w w' => Below w.heap.size w w')
                  [isV (.agg #[.int .i64 klo, .int .i64 khi, .slice (some ⟨bM, oM, none⟩) n ca]), isV (.slice C q2 cc), isV (.pointer (some ⟨w.heap.size + 1, 2, none⟩)), isV (.slice (some ⟨bO, oO, none⟩) m od), isV (.int .i64 (k : Int)), isV (.pointer (some ⟨bO, oO + k * 2, none⟩)), isV (.agg #[.int .i64 pa, .int .i64 pz]), PlsV (L2, 0), PlsV (L2, 0), SlP L2, isV (.int .i64 0), SlP L2, isV (.int .i64 0)]
                  (by kernel_rfl) (by kernel_rfl) (by kernel_rfl) (by simp) (by simp) (Below.refl _ _).drew ?stabQ ?stepQ ?finQ
                case stabQ => exact (StabL.is (StabL.is (StabL.is (StabL.is (StabL.is (StabL.is (StabL.is (StabL.cons (fun v W V hC hX h => h.bl hX) (StabL.cons (fun v W V hC hX h => h.bl hX) (StabL.cons (fun v W V hC hX h => h.bl hX) (StabL.is (StabL.cons (fun v W V hC hX h => h.bl hX) (StabL.is StabL.nil)))))))))))))
                case stepQ =>
                  refine StepsL.isA ?_ (StepsL.isA ?_ (StepsL.isA ?_ (StepsL.isA ?_ (StepsL.isA ?_ (StepsL.isA ?_ (StepsL.isA ?_ (StepsL.consA ?_ (StepsL.consA ?_ (StepsL.consA ?_ (StepsL.isA ?_ (StepsL.consA ?_ (StepsL.isA ?_ StepsL.nil))))))))))))
                  · -- 0
                    intro vs a W K ha hC hD hU hK
                    have r3 : a.tmps[3]? = some (.pointer (some ⟨w.heap.size, 0, none⟩)) := by rw [ha, fillA_base0 (by kernel_rfl)]; exact tb3
                    clear ha hU hD ha0
                    rw [if_pos (by rfl)]
                    obtain ⟨kq1, kq2, kq3, kq4, kq5, kq6⟩ := kq.out W hC
                    go_simp
                    exact hK _ hC (Below.refl _ _)
                  · -- 1
                    intro vs a W K ha hC hD hU hK
                    have r8 : a.tmps[8]? = some (.slice C q2 cc) := by rw [ha, fillA_base0 (by kernel_rfl)]; exact tb8
                    clear ha hU hD ha0
                    rw [if_pos (by rfl)]
                    go_simp
                    exact hK _ hC (Below.refl _ _)
                  · -- 2
                    intro vs a W K ha hC hD hU hK
                    have r4 : a.tmps[4]? = some (.pointer (some ⟨w.heap.size + 1, 0, none⟩)) := by rw [ha, fillA_base0 (by kernel_rfl)]; exact tb4
                    clear ha hU hD ha0
                    rw [if_pos (by rfl)]
                    go_simp
                    exact hK _ hC (Below.refl _ _)
                  · -- 3
                    intro vs a W K ha hC hD hU hK
                    have r121 : a.tmps[121]? = some (vs 2) := by rw [ha]; exact fillA_get0 (j := 2) (by kernel_rfl) (by rw [hsz]; decide)
                    have q2 : vs 2 = .pointer (some ⟨w.heap.size + 1, 2, none⟩) := hD 2 (by simp [waits, Region.binds])
                    rw [q2] at r121
                    clear ha hU hD ha0
                    rw [if_pos (by rfl)]
                    obtain ⟨kq1, kq2, kq3, kq4, kq5, kq6⟩ := kq.out W hC
                    go_simp
                    exact hK _ hC (Below.refl _ _)
                  · -- 4
                    intro vs a W K ha hC hD hU hK
                    have r15 : a.tmps[15]? = some (.int .i64 (k : Int)) := by rw [ha, fillA_base0 (by kernel_rfl)]; exact tb15
                    clear ha hU hD ha0
                    rw [if_pos (by rfl)]
                    go_simp
                    exact hK _ hC (Below.refl _ _)
                  · -- 5
                    intro vs a W K ha hC hD hU hK
                    have r122 : a.tmps[122]? = some (vs 3) := by rw [ha]; exact fillA_get0 (j := 3) (by kernel_rfl) (by rw [hsz]; decide)
                    have q3 : vs 3 = .slice (some ⟨bO, oO, none⟩) m od := hD 3 (by simp [waits, Region.binds])
                    rw [q3] at r122
                    have r123 : a.tmps[123]? = some (vs 4) := by rw [ha]; exact fillA_get0 (j := 4) (by kernel_rfl) (by rw [hsz]; decide)
                    have q4 : vs 4 = .int .i64 (k : Int) := hD 4 (by simp [waits, Region.binds])
                    rw [q4] at r123
                    clear ha hU hD ha0
                    rw [if_pos (by rfl)]
                    go_simp
                    exact hK _ hC (Below.refl _ _)
                  · -- 6
                    intro vs a W K ha hC hD hU hK
                    have r124 : a.tmps[124]? = some (vs 5) := by rw [ha]; exact fillA_get0 (j := 5) (by kernel_rfl) (by rw [hsz]; decide)
                    have q5 : vs 5 = .pointer (some ⟨bO, oO + k * 2, none⟩) := hD 5 (by simp [waits, Region.binds])
                    rw [q5] at r124
                    clear ha hU hD ha0
                    rw [if_pos (by rfl)]
                    obtain ⟨kq1, kq2, kq3, kq4, kq5, kq6⟩ := kq.out W hC
                    go_simp
                    exact hK _ hC (Below.refl _ _)
                  · -- 7
                    intro vs a W K ha hC hD hU hK
                    have r119 : a.tmps[119]? = some (vs 0) := by rw [ha]; exact fillA_get0 (j := 0) (by kernel_rfl) (by rw [hsz]; decide)
                    have q0 : vs 0 = .agg #[.int .i64 klo, .int .i64 khi, .slice (some ⟨bM, oM, none⟩) n ca] := hD 0 (by simp [waits, Region.binds])
                    rw [q0] at r119
                    have r120 : a.tmps[120]? = some (vs 1) := by rw [ha]; exact fillA_get0 (j := 1) (by kernel_rfl) (by rw [hsz]; decide)
                    have q1 : vs 1 = .slice C q2 cc := hD 1 (by simp [waits, Region.binds])
                    rw [q1] at r120
                    have r125 : a.tmps[125]? = some (vs 6) := by rw [ha]; exact fillA_get0 (j := 6) (by kernel_rfl) (by rw [hsz]; decide)
                    have q6 : vs 6 = .agg #[.int .i64 pa, .int .i64 pz] := hD 6 (by simp [waits, Region.binds])
                    rw [q6] at r125
                    clear ha hU hD ha0
                    rw [if_pos (by rfl)]
                    go_simp
                    refine (kFits_any (cc := cc) pa pz W (HG.out W (bl_call HBF.out hC (Nat.le_refl _))) (HS2.out W (bl_call HF4.out hC (Nat.le_refl _))) hca h1 h2).mono ?_
                    rw [HF1.out]
                    rintro e w' ⟨hT, hb⟩
                    obtain ⟨v, rfl, hv⟩ := PlsV.of hT
                    exact hK _ _ (bl_call hC hb (Nat.le_refl _)) hb hv
                  · -- 8
                    intro vs a W K ha hC hD hU hK
                    have r126 : a.tmps[126]? = some (vs 7) := by rw [ha]; exact fillA_get0 (j := 7) (by kernel_rfl) (by rw [hsz]; decide)
                    have P7 : PlsV (L2, 0) (vs 7) W := hD 7 (by simp [waits, Region.binds])
                    obtain ⟨A126, n126, c126, e126, hI126⟩ := P7
                    rw [e126] at r126
                    clear ha hU hD ha0
                    rw [if_pos (by rfl)]
                    go_simp
                    exact hK _ _ hC (Below.refl _ _) ⟨_, _, _, rfl, hI126⟩
                  · -- 9
                    intro vs a W K ha hC hD hU hK
                    have r118 : a.tmps[118]? = some (vs 8) := by rw [ha]; exact fillA_get0 (j := 8) (by kernel_rfl) (by rw [hsz]; decide)
                    have P8 : PlsV (L2, 0) (vs 8) W := hD 8 (by simp [waits, Region.binds])
                    obtain ⟨A118, n118, c118, e118, hI118⟩ := P8
                    rw [e118] at r118
                    clear ha hU hD ha0
                    rw [if_pos (by rfl)]
                    go_simp
                    exact hK _ _ hC (Below.refl _ _) ⟨_, _, _, rfl, hI118⟩
                  · -- 10
                    intro vs a W K ha hC hD hU hK
                    have r118 : a.tmps[118]? = some (vs 8) := by rw [ha]; exact fillA_get0 (j := 8) (by kernel_rfl) (by rw [hsz]; decide)
                    have P8 : PlsV (L2, 0) (vs 8) W := hD 8 (by simp [waits, Region.binds])
                    obtain ⟨A118, n118, c118, e118, hI118⟩ := P8
                    rw [e118] at r118
                    clear ha hU hD ha0
                    rw [if_pos (by rfl)]
                    go_simp
                    exact hK _ hC (Below.refl _ _)
                  · -- 11
                    intro vs a W K ha hC hD hU hK
                    have r127 : a.tmps[127]? = some (vs 9) := by rw [ha]; exact fillA_get0 (j := 9) (by kernel_rfl) (by rw [hsz]; decide)
                    have P9 : SlP L2 (vs 9) W := hD 9 (by simp [waits, Region.binds])
                    obtain ⟨A127, n127, c127, e127, hI127⟩ := P9
                    rw [e127] at r127
                    clear ha hU hD ha0
                    rw [if_pos (by rfl)]
                    go_simp
                    exact hK _ _ hC (Below.refl _ _) ⟨_, _, _, rfl, hI127⟩
                  · -- 12
                    intro vs a W K ha hC hD hU hK
                    have r128 : a.tmps[128]? = some (vs 10) := by rw [ha]; exact fillA_get0 (j := 10) (by kernel_rfl) (by rw [hsz]; decide)
                    have q10 : vs 10 = .int .i64 0 := hD 10 (by simp [waits, Region.binds])
                    rw [q10] at r128
                    clear ha hU hD ha0
                    rw [if_pos (by rfl)]
                    go_simp
                    exact hK _ hC (Below.refl _ _)
                case finQ =>
                  refine Fin1.none (Nat.le_refl _) ?_
                  intro vs W a1 hC hE ha
                  have E11 : SlP L2 (vs 11) W := hE 11 (by simp)
                  have e12 : vs 12 = .int .i64 0 := hE 12 (by simp)
                  obtain ⟨faA, fan, fac, e11, fah⟩ := E11
                  rw [ha, ha0]
                  clear ha ha0 hsz tb3 tb4 tb8 tb15
                  simp only [fillA, Act.put, List.setIfInBounds_toArray, List.set_cons_zero, List.set_cons_succ, Nat.zero_add, Nat.reduceAdd, e11, e12]
                  obtain ⟨u0, hu0⟩ : ∃ v0, vs 0 = v0 := ⟨_, rfl⟩
                  obtain ⟨u1, hu1⟩ : ∃ v0, vs 1 = v0 := ⟨_, rfl⟩
                  obtain ⟨u2, hu2⟩ : ∃ v0, vs 2 = v0 := ⟨_, rfl⟩
                  obtain ⟨u3, hu3⟩ : ∃ v0, vs 3 = v0 := ⟨_, rfl⟩
                  obtain ⟨u4, hu4⟩ : ∃ v0, vs 4 = v0 := ⟨_, rfl⟩
                  obtain ⟨u5, hu5⟩ : ∃ v0, vs 5 = v0 := ⟨_, rfl⟩
                  obtain ⟨u6, hu6⟩ : ∃ v0, vs 6 = v0 := ⟨_, rfl⟩
                  obtain ⟨u7, hu7⟩ : ∃ v0, vs 7 = v0 := ⟨_, rfl⟩
                  obtain ⟨u8, hu8⟩ : ∃ v0, vs 8 = v0 := ⟨_, rfl⟩
                  obtain ⟨u9, hu9⟩ : ∃ v0, vs 9 = v0 := ⟨_, rfl⟩
                  obtain ⟨u10, hu10⟩ : ∃ v0, vs 10 = v0 := ⟨_, rfl⟩
                  rw [hu0, hu1, hu2, hu3, hu4, hu5, hu6, hu7, hu8, hu9, hu10]
                  clear hu0 hu1 hu2 hu3 hu4 hu5 hu6 hu7 hu8 hu9 hu10
                  clear hE e11 e12
                  have Hfa : Hid (∀ V, Below W.heap.size W V → Pls (fun _ => True) V faA fan L2) := fun V hb => fah.keep PlR.good (Keeps.below hb)
                  have fale := fah.le
                  have HNfa : Hid (Below WF.heap.size WF W) := hC
                  clear hC fah
                  obtain ⟨V16, hV16⟩ : ∃ V, V = W := ⟨_, rfl⟩
                  subst hV16
                  go_wp2_with fail
                  refine wp_frameT ?_
                  intro a0 ha0
                  have tb3 : a0.tmps[3]? = some (.pointer (some ⟨w.heap.size, 0, none⟩)) := by rw [ha0]; kernel_rfl
                  have tb4 : a0.tmps[4]? = some (.pointer (some ⟨w.heap.size + 1, 0, none⟩)) := by rw [ha0]; kernel_rfl
                  have tb7 : a0.tmps[7]? = some (.slice C q cc) := by rw [ha0]; kernel_rfl
                  have tb15 : a0.tmps[15]? = some (.int .i64 (k : Int)) := by rw [ha0]; kernel_rfl
                  have hsz : a0.tmps.size = 197 := by rw [ha0]; kernel_rfl
                  refine wp_region_list (fun W => Below V16.heap.size V16 W) (fun w w' => Below w.heap.size w w')
                    [isV (.agg #[.int .i64 klo, .int .i64 khi, .slice (some ⟨bM, oM, none⟩) n ca]), isV (.slice C q cc), isV (.pointer (some ⟨w.heap.size + 1, 2, none⟩)), isV (.slice (some ⟨bO, oO, none⟩) m od), isV (.int .i64 (k : Int)), isV (.pointer (some ⟨bO, oO + k * 2, none⟩)), isV (.agg #[.int .i64 pa, .int .i64 pz]), PlsV (L, 0), PlsV (L, 0), SlP L, isV (.int .i64 0), SlP L, isV (.int .i64 0)]
                    (by kernel_rfl) (by kernel_rfl) (by kernel_rfl) (by simp) (by simp) (Below.refl _ _).drew ?stabR ?stepR ?finR
                  case stabR => exact (StabL.is (StabL.is (StabL.is (StabL.is (StabL.is (StabL.is (StabL.is (StabL.cons (fun v W V hC hX h => h.bl hX) (StabL.cons (fun v W V hC hX h => h.bl hX) (StabL.cons (fun v W V hC hX h => h.bl hX) (StabL.is (StabL.cons (fun v W V hC hX h => h.bl hX) (StabL.is StabL.nil)))))))))))))
                  case stepR =>
                    refine StepsL.isA ?_ (StepsL.isA ?_ (StepsL.isA ?_ (StepsL.isA ?_ (StepsL.isA ?_ (StepsL.isA ?_ (StepsL.isA ?_ (StepsL.consA ?_ (StepsL.consA ?_ (StepsL.consA ?_ (StepsL.isA ?_ (StepsL.consA ?_ (StepsL.isA ?_ StepsL.nil))))))))))))
                    · -- 0
                      intro vs a W K ha hC hD hU hK
                      have r3 : a.tmps[3]? = some (.pointer (some ⟨w.heap.size, 0, none⟩)) := by rw [ha, fillA_base0 (by kernel_rfl)]; exact tb3
                      clear ha hU hD ha0
                      rw [if_pos (by rfl)]
                      obtain ⟨kq1, kq2, kq3, kq4, kq5, kq6⟩ := kq.out W (bl_call HNfa.out hC (Nat.le_refl _))
                      go_simp
                      exact hK _ hC (Below.refl _ _)
                    · -- 1
                      intro vs a W K ha hC hD hU hK
                      have r7 : a.tmps[7]? = some (.slice C q cc) := by rw [ha, fillA_base0 (by kernel_rfl)]; exact tb7
                      clear ha hU hD ha0
                      rw [if_pos (by rfl)]
                      go_simp
                      exact hK _ hC (Below.refl _ _)
                    · -- 2
                      intro vs a W K ha hC hD hU hK
                      have r4 : a.tmps[4]? = some (.pointer (some ⟨w.heap.size + 1, 0, none⟩)) := by rw [ha, fillA_base0 (by kernel_rfl)]; exact tb4
                      clear ha hU hD ha0
                      rw [if_pos (by rfl)]
                      go_simp
                      exact hK _ hC (Below.refl _ _)
                    · -- 3
                      intro vs a W K ha hC hD hU hK
                      have r132 : a.tmps[132]? = some (vs 2) := by rw [ha]; exact fillA_get0 (j := 2) (by kernel_rfl) (by rw [hsz]; decide)
                      have q2 : vs 2 = .pointer (some ⟨w.heap.size + 1, 2, none⟩) := hD 2 (by simp [waits, Region.binds])
                      rw [q2] at r132
                      clear ha hU hD ha0
                      rw [if_pos (by rfl)]
                      obtain ⟨kq1, kq2, kq3, kq4, kq5, kq6⟩ := kq.out W (bl_call HNfa.out hC (Nat.le_refl _))
                      go_simp
                      exact hK _ hC (Below.refl _ _)
                    · -- 4
                      intro vs a W K ha hC hD hU hK
                      have r15 : a.tmps[15]? = some (.int .i64 (k : Int)) := by rw [ha, fillA_base0 (by kernel_rfl)]; exact tb15
                      clear ha hU hD ha0
                      rw [if_pos (by rfl)]
                      go_simp
                      exact hK _ hC (Below.refl _ _)
                    · -- 5
                      intro vs a W K ha hC hD hU hK
                      have r133 : a.tmps[133]? = some (vs 3) := by rw [ha]; exact fillA_get0 (j := 3) (by kernel_rfl) (by rw [hsz]; decide)
                      have q3 : vs 3 = .slice (some ⟨bO, oO, none⟩) m od := hD 3 (by simp [waits, Region.binds])
                      rw [q3] at r133
                      have r134 : a.tmps[134]? = some (vs 4) := by rw [ha]; exact fillA_get0 (j := 4) (by kernel_rfl) (by rw [hsz]; decide)
                      have q4 : vs 4 = .int .i64 (k : Int) := hD 4 (by simp [waits, Region.binds])
                      rw [q4] at r134
                      clear ha hU hD ha0
                      rw [if_pos (by rfl)]
                      go_simp
                      exact hK _ hC (Below.refl _ _)
                    · -- 6
                      intro vs a W K ha hC hD hU hK
                      have r135 : a.tmps[135]? = some (vs 5) := by rw [ha]; exact fillA_get0 (j := 5) (by kernel_rfl) (by rw [hsz]; decide)
                      have q5 : vs 5 = .pointer (some ⟨bO, oO + k * 2, none⟩) := hD 5 (by simp [waits, Region.binds])
                      rw [q5] at r135
                      clear ha hU hD ha0
                      rw [if_pos (by rfl)]
                      obtain ⟨kq1, kq2, kq3, kq4, kq5, kq6⟩ := kq.out W (bl_call HNfa.out hC (Nat.le_refl _))
                      go_simp
                      exact hK _ hC (Below.refl _ _)
                    · -- 7
                      intro vs a W K ha hC hD hU hK
                      have r130 : a.tmps[130]? = some (vs 0) := by rw [ha]; exact fillA_get0 (j := 0) (by kernel_rfl) (by rw [hsz]; decide)
                      have q0 : vs 0 = .agg #[.int .i64 klo, .int .i64 khi, .slice (some ⟨bM, oM, none⟩) n ca] := hD 0 (by simp [waits, Region.binds])
                      rw [q0] at r130
                      have r131 : a.tmps[131]? = some (vs 1) := by rw [ha]; exact fillA_get0 (j := 1) (by kernel_rfl) (by rw [hsz]; decide)
                      have q1 : vs 1 = .slice C q cc := hD 1 (by simp [waits, Region.binds])
                      rw [q1] at r131
                      have r136 : a.tmps[136]? = some (vs 6) := by rw [ha]; exact fillA_get0 (j := 6) (by kernel_rfl) (by rw [hsz]; decide)
                      have q6 : vs 6 = .agg #[.int .i64 pa, .int .i64 pz] := hD 6 (by simp [waits, Region.binds])
                      rw [q6] at r136
                      clear ha hU hD ha0
                      rw [if_pos (by rfl)]
                      go_simp
                      refine (kFits_any (cc := cc) pa pz W (HG.out W (bl_call HBF.out (bl_call HNfa.out hC (Nat.le_refl _)) (Nat.le_refl _))) (HS.out W (bl_call HF4.out (bl_call HNfa.out hC (Nat.le_refl _)) (Nat.le_refl _))) hca h1 h2).mono ?_
                      rw [HF2.out]
                      rintro e w' ⟨hT, hb⟩
                      obtain ⟨v, rfl, hv⟩ := PlsV.of hT
                      exact hK _ _ (bl_call hC hb (Nat.le_refl _)) hb hv
                    · -- 8
                      intro vs a W K ha hC hD hU hK
                      have r137 : a.tmps[137]? = some (vs 7) := by rw [ha]; exact fillA_get0 (j := 7) (by kernel_rfl) (by rw [hsz]; decide)
                      have P7 : PlsV (L, 0) (vs 7) W := hD 7 (by simp [waits, Region.binds])
                      obtain ⟨A137, n137, c137, e137, hI137⟩ := P7
                      rw [e137] at r137
                      clear ha hU hD ha0
                      rw [if_pos (by rfl)]
                      go_simp
                      exact hK _ _ hC (Below.refl _ _) ⟨_, _, _, rfl, hI137⟩
                    · -- 9
                      intro vs a W K ha hC hD hU hK
                      have r129 : a.tmps[129]? = some (vs 8) := by rw [ha]; exact fillA_get0 (j := 8) (by kernel_rfl) (by rw [hsz]; decide)
                      have P8 : PlsV (L, 0) (vs 8) W := hD 8 (by simp [waits, Region.binds])
                      obtain ⟨A129, n129, c129, e129, hI129⟩ := P8
                      rw [e129] at r129
                      clear ha hU hD ha0
                      rw [if_pos (by rfl)]
                      go_simp
                      exact hK _ _ hC (Below.refl _ _) ⟨_, _, _, rfl, hI129⟩
                    · -- 10
                      intro vs a W K ha hC hD hU hK
                      have r129 : a.tmps[129]? = some (vs 8) := by rw [ha]; exact fillA_get0 (j := 8) (by kernel_rfl) (by rw [hsz]; decide)
                      have P8 : PlsV (L, 0) (vs 8) W := hD 8 (by simp [waits, Region.binds])
                      obtain ⟨A129, n129, c129, e129, hI129⟩ := P8
                      rw [e129] at r129
                      clear ha hU hD ha0
                      rw [if_pos (by rfl)]
                      go_simp
                      exact hK _ hC (Below.refl _ _)
                    · -- 11
                      intro vs a W K ha hC hD hU hK
                      have r138 : a.tmps[138]? = some (vs 9) := by rw [ha]; exact fillA_get0 (j := 9) (by kernel_rfl) (by rw [hsz]; decide)
                      have P9 : SlP L (vs 9) W := hD 9 (by simp [waits, Region.binds])
                      obtain ⟨A138, n138, c138, e138, hI138⟩ := P9
                      rw [e138] at r138
                      clear ha hU hD ha0
                      rw [if_pos (by rfl)]
                      go_simp
                      exact hK _ _ hC (Below.refl _ _) ⟨_, _, _, rfl, hI138⟩
                    · -- 12
                      intro vs a W K ha hC hD hU hK
                      have r139 : a.tmps[139]? = some (vs 10) := by rw [ha]; exact fillA_get0 (j := 10) (by kernel_rfl) (by rw [hsz]; decide)
                      have q10 : vs 10 = .int .i64 0 := hD 10 (by simp [waits, Region.binds])
                      rw [q10] at r139
                      clear ha hU hD ha0
                      rw [if_pos (by rfl)]
                      go_simp
                      exact hK _ hC (Below.refl _ _)
                  case finR =>
                    refine Fin1.none (Nat.le_refl _) ?_
                    intro vs W a1 hC hE ha
                    have E11 : SlP L (vs 11) W := hE 11 (by simp)
                    have e12 : vs 12 = .int .i64 0 := hE 12 (by simp)
                    obtain ⟨fbA, fbn, fbc, e11, fbh⟩ := E11
                    rw [ha, ha0]
                    clear ha ha0 hsz tb3 tb4 tb7 tb15
                    simp only [fillA, Act.put, List.setIfInBounds_toArray, List.set_cons_zero, List.set_cons_succ, Nat.zero_add, Nat.reduceAdd, e11, e12]
                    obtain ⟨u0, hu0⟩ : ∃ v0, vs 0 = v0 := ⟨_, rfl⟩
                    obtain ⟨u1, hu1⟩ : ∃ v0, vs 1 = v0 := ⟨_, rfl⟩
                    obtain ⟨u2, hu2⟩ : ∃ v0, vs 2 = v0 := ⟨_, rfl⟩
                    obtain ⟨u3, hu3⟩ : ∃ v0, vs 3 = v0 := ⟨_, rfl⟩
                    obtain ⟨u4, hu4⟩ : ∃ v0, vs 4 = v0 := ⟨_, rfl⟩
                    obtain ⟨u5, hu5⟩ : ∃ v0, vs 5 = v0 := ⟨_, rfl⟩
                    obtain ⟨u6, hu6⟩ : ∃ v0, vs 6 = v0 := ⟨_, rfl⟩
                    obtain ⟨u7, hu7⟩ : ∃ v0, vs 7 = v0 := ⟨_, rfl⟩
                    obtain ⟨u8, hu8⟩ : ∃ v0, vs 8 = v0 := ⟨_, rfl⟩
                    obtain ⟨u9, hu9⟩ : ∃ v0, vs 9 = v0 := ⟨_, rfl⟩
                    obtain ⟨u10, hu10⟩ : ∃ v0, vs 10 = v0 := ⟨_, rfl⟩
                    rw [hu0, hu1, hu2, hu3, hu4, hu5, hu6, hu7, hu8, hu9, hu10]
                    clear hu0 hu1 hu2 hu3 hu4 hu5 hu6 hu7 hu8 hu9 hu10
                    clear hE e11 e12
                    have Hfb : Hid (∀ V, Below W.heap.size W V → Pls (fun _ => True) V fbA fbn L) := fun V hb => fbh.keep PlR.good (Keeps.below hb)
                    have fble := fbh.le
                    have HNfb : Hid (Below V16.heap.size V16 W) := hC
                    clear hC fbh
                    obtain ⟨V17, hV17⟩ : ∃ V, V = W := ⟨_, rfl⟩
                    subst hV17
                    have HN17 : Hid (Below WF.heap.size WF V17) := bl_call HNfa.out HNfb.out (Nat.le_refl _)
                    go_wp2_with fail
                    go_loopw [20] (fun i wr => ∃ j : Nat, j ≤ fan ∧ i = .int .i64 j ∧ Hid (Below V17.heap.size V17 wr)) (fun i _ => fan - (intOf i).toNat)
                    case atStart => exact ⟨0, Nat.zero_le _, rfl, Below.refl _ _⟩
                    case round =>
                      obtain ⟨j, hj, rfl, HBj⟩ := hrel
                      by_cases hlt3 : j < fan
                      · have hji : (j : Int) < fan := by omega
                        obtain ⟨bF, oF, q1, q2x, rfl, _, d0, d1, HxF⟩ := Pls.get (Hfa.out wr (bl_call HNfb.out HBj.out (Nat.le_refl _))) hlt3
                        have HIN : Hid ((q1, q2x) ∈ L) := HLL.out _ (List.mem_of_getElem? HxF.out)
                        go_wp2_with fail
                        refine (has7_any (q1, q2x) wr (Hfb.out wr HBj.out)).mono ?_
                        rintro e V8 ⟨rfl, c8⟩
                        rw [decide_eq_true HIN.out]
                        have HB8 : Hid (Below V17.heap.size V17 V8) := bl_call HBj.out c8 (Nat.le_refl _)
                        clear c8 d0 d1
                        go_wp2_with fail
                        go_roundw
                        case rel => exact ⟨j + 1, by omega, by go_num, HB8.out⟩
                        case measure => simp [intOf]; omega
                      · obtain rfl : j = fan := by omega
                        have hji : ¬ (j : Int) < j := by omega
                        have HBO : Hid (Below VL.heap.size VL wr) := bl_call HBk.out (bl_call HN17.out HBj.out (Nat.le_refl _)) (Nat.le_refl _)
                        go_wp2_with fail
                        go_roundw
                        case rel => exact ⟨k + 1, by omega, by go_num, HBO.out⟩
                        case measure => simp [intOf]; omega
              · obtain rfl : k = m := by omega
                have hki : ¬ (k : Int) < k := by omega
                go_wp2_with fail
                clear x0 x1 x2 y2
                refine (kplan_any (cc := cc) wr (HG.out wr HBF0.out) (HS2.out wr HF40.out) (HPS.out wr HBF0.out) hca h1 h2).mono ?_
                rintro e V20 ⟨⟨D1, c1, D2, c2, rfl, _, _⟩, c20⟩
                obtain ⟨g1n, hg1n⟩ : ∃ x, (planR s l2 p).1.length = x := ⟨_, rfl⟩
                obtain ⟨g2n, hg2n⟩ : ∃ x, (planR s l2 p).2.1.length = x := ⟨_, rfl⟩
                obtain ⟨gE, hgE⟩ : ∃ x, (planR s l2 p).2.2 = x := ⟨_, rfl⟩
                rw [hg1n, hg2n, hgE]
                have b20 := bl_call HBF0.out c20 (Nat.le_refl _)
                have b420 := bl_call HF40.out c20 (Nat.le_refl _)
                obtain ⟨x0, x1, x2, _, _, y2, _, _⟩ := kk.out V20 b20
                go_wp2_with fail
                clear x0 x1 x2 y2
                refine (kplan_any (cc := cc) V20 (HG.out V20 b20) (HS.out V20 b420) (HPS.out V20 b20) hca h1 h2).mono ?_
                rintro e V21 ⟨⟨D3, c3, D4, c4, rfl, _, _⟩, c21⟩
                obtain ⟨f1n, hf1n⟩ : ∃ x, (planR s l p).1.length = x := ⟨_, rfl⟩
                obtain ⟨f2n, hf2n⟩ : ∃ x, (planR s l p).2.1.length = x := ⟨_, rfl⟩
                obtain ⟨fE, hfE⟩ : ∃ x, (planR s l p).2.2 = x := ⟨_, rfl⟩
                rw [hf1n, hf2n, hfE]
                have hcase := HPL.out
                rw [hgE, hfE, hf2n, hg2n] at hcase
                have b21 := bl_call hBW (bl_call b20 c21 (Nat.le_refl _)) (Nat.le_refl _)
                clear b20 b420 c20 c21 hg1n hg2n hgE hf1n hf2n hfE
                rcases hcase with hc8 | ⟨hc0, hc1, hc2⟩
                · subst hc8
                  go_wp2_with fail
                  refine (awake7_any V21).mono ?_
                  rintro e V22 ⟨rfl, c22⟩
                  have b22 := bl_call b21 c22 (Nat.le_refl _)
                  clear c22 b21
                  go_wp2
                  go_ret
                  exact ⟨by rfl, b22⟩
                · subst hc0 hc1
                  have hc2i : (f2n : Int) ≤ (g2n : Int) := by omega
                  go_wp2_with fail
                  refine (awake7_any V21).mono ?_
                  rintro e V22 ⟨rfl, c22⟩
                  have b22 := bl_call b21 c22 (Nat.le_refl _)
                  clear c22 b21
                  go_wp2
                  go_ret
                  exact ⟨by rfl, b22⟩
        · obtain ⟨ev, hev⟩ : ∃ x, orderE s l p = x := ⟨_, rfl⟩
          rw [hev] at h0
          rw [hev]
          have hvb : (ev != 0) = true := by simpa using h0
          clear h0 hev
          go_wp2_with fail
          refine (awake7_any V5).mono ?_
          rintro e V7 ⟨rfl, c7⟩
          have b7 := bl_call hBW (bl_call HB5.out c7 (Nat.le_refl _)) (Nat.le_refl _)
          clear c7
          go_wp2
          go_ret
          exact ⟨by rfl, b7⟩
  · have heb : (err7 s == 0) = false := by simpa using he
    rw [heb]
    clear he heb
    go_wp2_with fail
    refine (awake7_any V1).mono ?_
    rintro e V2 ⟨rfl, c2⟩
    have b2 := bl_call hBW (bl_call b1 c2 (Nat.le_refl _)) (Nat.le_refl _)
    clear c2
    go_wp2
    go_ret
    exact ⟨by rfl, b2⟩
end Go.Proofs.Ytinekpalobaeoaa
