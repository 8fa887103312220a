/- A part of the proof that TopWorn always answers true. -/
import Derived.Test.YtdbfincinjoppabGreatDoorCKBase
import Derived.Test.YtdbfincinjoppabGreatDoorCKFit
import Derived.Test.YtdbfincinjoppabGreatDoorCKLaw4
import Derived.Test.YtdbfincinjoppabGreatDoorCKRefB
import Derived.Test.YtdbfincinjoppabGreatDoorCLaw6
import Derived.Test.YtdbfincinjoppabGreatDoorCProg14
import Derived.Test.YtdbfincinjoppabGreatDoorCProg18
import Derived.Test.YtdbfincinjoppabGreatDoorCProg20
import Derived.Test.YtdbfincinjoppabGreatDoorCProg26
set_option linter.all false
namespace Go.Proofs.YtdbfincinjoppabGreatDoor
open Go.RowKit Go.Shelf
set_option maxRecDepth 100000 in
set_option maxHeartbeats 16000000 in
theorem topWorn_any {A : Option Addr} {n ca : Nat} {s : Shop} {klo khi : Int} {x0 x1 x2 x3 y : Nat} (hx0 : x0 < 256) (hx1 : x1 < 256) (hx2 : x2 < 256) (hx3 : x3 < 256) (hy : y < 256) (w : World) (htab : TabOk w) (g : Moulds (fun _ => True) w A n s.moulds) (hca : n ≤ ca) (h1 : s.klo = klo) (h2 : s.khi = khi) :
  Calls Tryz.prog 3 #[.agg #[.int .i64 klo, .int .i64 khi, .slice A n ca], .agg #[.int .u8 x0, .int .u8 x1, .int .u8 x2, .int .u8 x3], .int .u8 y] w fun e w' => e = .returned (.bool true) ∧ Below w.heap.size w w' := by
 have HGw : Hid (∀ V, Below w.heap.size w V → Moulds (fun _ => True) V A n s.moulds) := fun V hb => g.keep MouldR.good (Keeps.below hb)
 have HTb : Hid (∀ V, Below w.heap.size w V → TabOk V) := fun V hb => htab.bl hb
 have Hn := Lib.hid g.len
 have hnl := g.le
 obtain ⟨WH, hWe⟩ : ∃ WH, (w.alloc (.cells #[.int .i64 klo, .int .i64 khi, .slice A n ca] 26)).alloc (.cells #[.int .u8 x0, .int .u8 x1, .int .u8 x2, .int .u8 x3] 27) = WH := ⟨_, rfl⟩
 have X : Blk WH w.heap.size 26 #[.int .i64 klo, .int .i64 khi, .slice A n ca] := by rw [← hWe]; exact (Blk.new _ _ _ rfl).alloc _
 have Y : Blk WH (w.heap.size + 1) 27 #[.int .u8 x0, .int .u8 x1, .int .u8 x2, .int .u8 x3] := by rw [← hWe]; exact Blk.new _ _ _ (by simp)
 have hBW : Below w.heap.size w WH := by rw [← hWe]; exact bl_alloc (bl_alloc (Below.refl _ _) _ (Nat.le_refl _)) _ (Nat.le_refl _)
 have hWw : w.heap.size + 1 < WH.heap.size := Y.lt
 have kk : Hid (∀ V, Below WH.heap.size WH V → V.cell? ⟨w.heap.size, 0, none⟩ = some (.int .i64 klo) ∧ V.cell? ⟨w.heap.size, 1, none⟩ = some (.int .i64 khi) ∧ V.cell? ⟨w.heap.size, 2, none⟩ = some (.slice A n ca) ∧ V.cell? ⟨w.heap.size + 1, 0, none⟩ = some (.int .u8 x0) ∧ V.cell? ⟨w.heap.size + 1, 1, none⟩ = some (.int .u8 x1) ∧ V.cell? ⟨w.heap.size + 1, 2, none⟩ = some (.int .u8 x2) ∧ V.cell? ⟨w.heap.size + 1, 3, none⟩ = some (.int .u8 x3)) :=
  fun V hb => ⟨(X.bl hb).cell 0, (X.bl hb).cell 1, (X.bl hb).cell 2, (Y.bl hb).cell 0, (Y.bl hb).cell 1, (Y.bl hb).cell 2, (Y.bl hb).cell 3⟩
 clear X Y g htab
 obtain ⟨c0, c1, c2, d0, d1, d2, d3⟩ := kk.out WH (Below.refl _ _)
 go_enter Tryz.func3, Tryz.ntmps3
 go_wp2_with fail
 clear hWe c0 c1 c2 d0 d1 d2 d3
 refine (rcheck7_any WH (HGw.out WH hBW) h1 h2).mono ?_
 rintro e V1 ⟨rfl, b1⟩
 obtain ⟨i1, hi1⟩ : ∃ x, (check7 s).1 = x := ⟨_, rfl⟩
 obtain ⟨i2, hi2⟩ : ∃ x, (check7 s).2.1 = x := ⟨_, rfl⟩
 obtain ⟨e7, he7⟩ : ∃ x, (check7 s).2.2 = x := ⟨_, rfl⟩
 rw [hi1, hi2, he7]
 clear hi1 hi2
 have HB1 := Lib.hid b1
 have HBw1 : Hid (Below w.heap.size w V1) := bl_call hBW b1 (Nat.le_refl _)
 clear b1
 by_cases z7 : e7 = 0
 ·have HOK : Hid (OkS s) := okS_of (he7.trans z7)
  subst z7
  clear he7
  have hn4 : n ≤ 4 := by rw [← Hn.out]; exact HOK.out.nm.2
  have hn1 : 1 ≤ n := by rw [← Hn.out]; exact HOK.out.nm.1
  obtain ⟨mm, hmm⟩ : ∃ m, x0 % n = m := ⟨_, rfl⟩
  have hmn : mm < n := by rw [← hmm]; exact Nat.mod_lt _ (by omega)
  have ht0 : ((x0 : Int)).tmod (n : Int) = (mm : Int) := by rw [Int.tmod_eq_emod_of_nonneg (by omega), ← hmm]; rfl
  obtain ⟨bM, oM, sn, ma, mz, my, mu, ct, hAe, hbM, e0, e1, e2, e3, e4, e5, hss, HxM⟩ := Moulds.get (HGw.out V1 HBw1.out) hmn
  subst hAe
  have hmE := HOK.out.mould (k := mm) (by rw [Hn.out]; exact hmn)
  obtain ⟨⟨p1, p2, p3, p4⟩, ⟨p5, p6, p7, p8⟩, p9, p10⟩ := mouldE_zero HxM.out hmE
  dsimp only at p1 p2 p3 p4 p5 p6 p7 p8 p9 p10
  have HFR : Hid (fresh sn.data.toList [] = 0) := by
   have h9 := hmE
   unfold mouldE at h9
   rw [getD_of HxM.out] at h9
   dsimp only at h9
   split at h9
   ·rename_i h8; exact absurd h9 h8
   rename_i h8; exact fresh_nil (Classical.not_not.1 h8)
  have HEC : Hid (∀ V, Below V1.heap.size V1 V → V.cell? ⟨bM, oM + mm * 6, none⟩ = some (.string sn) ∧ V.cell? ⟨bM, oM + mm * 6 + 1, none⟩ = some (.int .i64 ma) ∧ V.cell? ⟨bM, oM + mm * 6 + 2, none⟩ = some (.int .i64 mz) ∧ V.cell? ⟨bM, oM + mm * 6 + 3, none⟩ = some (.int .i64 my) ∧ V.cell? ⟨bM, oM + mm * 6 + 4, none⟩ = some (.int .i64 mu) ∧ V.cell? ⟨bM, oM + mm * 6 + 5, none⟩ = some (.int .i64 ct)) := fun V hb => ⟨getc hb e0, getc hb e1, getc hb e2, getc hb e3, getc hb e4, getc hb e5⟩
  clear e0 e1 e2 e3 e4 e5 hmE hbM
  have hdz : ¬ (n : Int) = 0 := by omega
  have hdn : ¬ n = 0 := by omega
  have hdz2 : ((n : Int) == 0) = false := by simp; omega
  have cm0 : IntKind.i64.wrap (mm : Int) = mm := by rw [IntKind.wrap_i64]; omega
  have hmi : (mm : Int) < n := by omega
  have cx0 : IntKind.i64.wrap (x0 : Int) = x0 := by rw [IntKind.wrap_i64]; omega
  go_wp2_with fail
  have AS := Lib.hid (stE_stab V1.heap.size 33 (#[.string ByteArray.empty, .int .i64 0, .int .i64 0, .int .i64 0, .int .i64 0, .int .i64 0]) (#[.string ByteArray.empty, .int .i64 0, .int .i64 0, .int .i64 0, .int .i64 0, .int .i64 0]) [.pointer (some ⟨w.heap.size, 2, none⟩), .slice (some ⟨bM, oM, none⟩) n ca, .pointer (some ⟨w.heap.size + 1, 0, none⟩), .int .u8 (x0 : Int), .int .i64 (x0 : Int), .pointer (some ⟨w.heap.size, 2, none⟩), .slice (some ⟨bM, oM, none⟩) n ca, .int .i64 (n : Int), .int .i64 (mm : Int), .pointer (some ⟨bM, oM + mm * 6, none⟩), .agg #[.string sn, .int .i64 ma, .int .i64 mz, .int .i64 my, .int .i64 mu, .int .i64 ct]] 11)
  refine wp_region_invs (InvE V1.heap.size V1 (stE V1.heap.size 33 (#[.string ByteArray.empty, .int .i64 0, .int .i64 0, .int .i64 0, .int .i64 0, .int .i64 0]) (#[.string ByteArray.empty, .int .i64 0, .int .i64 0, .int .i64 0, .int .i64 0, .int .i64 0]) [.pointer (some ⟨w.heap.size, 2, none⟩), .slice (some ⟨bM, oM, none⟩) n ca, .pointer (some ⟨w.heap.size + 1, 0, none⟩), .int .u8 (x0 : Int), .int .i64 (x0 : Int), .pointer (some ⟨w.heap.size, 2, none⟩), .slice (some ⟨bM, oM, none⟩) n ca, .int .i64 (n : Int), .int .i64 (mm : Int), .pointer (some ⟨bM, oM + mm * 6, none⟩), .agg #[.string sn, .int .i64 ma, .int .i64 mz, .int .i64 my, .int .i64 mu, .int .i64 ct]] 11) 12) 12 (by kernel_rfl) (by kernel_rfl) (by kernel_rfl) (by rfl) ⟨(Below.refl _ _).drew, fun i h => by cases h⟩ ?stepA (by rfl) (by rfl) ?finA
  case stepA =>
   refine StepsI.cons ?_ (StepsI.cons ?_ (StepsI.cons ?_ (StepsI.cons ?_ (StepsI.cons ?_ (StepsI.cons ?_ (StepsI.cons ?_ (StepsI.cons ?_ (StepsI.cons ?_ (StepsI.cons ?_ (StepsI.cons ?_ (StepsI.cons ?_ StepsI.nil)))))))))))
   all_goals
    refine StepI.of ?_
    intro ls vs W K hI hl hw hU hK
    simp only [fillA, Act.put, List.setIfInBounds_toArray, List.set_cons_zero, List.set_cons_succ, Nat.zero_add, Nat.reduceAdd] at hK ⊢
    simp [waits, Region.binds] at hw
    have hC := hI.1
   ·
    go_simp
    exact hK _ _ (hI.step AS.out (Below.refl _ _) hC.size (by decide) (stE_put (by decide) rfl))
   ·
    have q0 : vs 0 = .pointer (some ⟨w.heap.size, 2, none⟩) := stE_get (hI.2 0 (by simp [hw])) (by decide) rfl
    simp only [q0] at hK ⊢
    obtain ⟨c0, c1, c2, d0, d1, d2, d3⟩ := kk.out W (bl_call HB1.out hC (Nat.le_refl _))
    obtain ⟨m0, m1, m2, m3, m4, m5⟩ := HEC.out W hC
    go_simp
    exact hK _ _ (hI.step AS.out (Below.refl _ _) hC.size (by decide) (stE_put (by decide) rfl))
   ·
    go_simp
    exact hK _ _ (hI.step AS.out (Below.refl _ _) hC.size (by decide) (stE_put (by decide) rfl))
   ·
    have q2 : vs 2 = .pointer (some ⟨w.heap.size + 1, 0, none⟩) := stE_get (hI.2 2 (by simp [hw])) (by decide) rfl
    simp only [q2] at hK ⊢
    obtain ⟨c0, c1, c2, d0, d1, d2, d3⟩ := kk.out W (bl_call HB1.out hC (Nat.le_refl _))
    obtain ⟨m0, m1, m2, m3, m4, m5⟩ := HEC.out W hC
    go_simp
    exact hK _ _ (hI.step AS.out (Below.refl _ _) hC.size (by decide) (stE_put (by decide) rfl))
   ·
    have q3 : vs 3 = .int .u8 (x0 : Int) := stE_get (hI.2 3 (by simp [hw])) (by decide) rfl
    simp only [q3] at hK ⊢
    go_simp
    exact hK _ _ (hI.step AS.out (Below.refl _ _) hC.size (by decide) (stE_put (by decide) rfl))
   ·
    go_simp
    exact hK _ _ (hI.step AS.out (Below.refl _ _) hC.size (by decide) (stE_put (by decide) rfl))
   ·
    have q5 : vs 5 = .pointer (some ⟨w.heap.size, 2, none⟩) := stE_get (hI.2 5 (by simp [hw])) (by decide) rfl
    simp only [q5] at hK ⊢
    obtain ⟨c0, c1, c2, d0, d1, d2, d3⟩ := kk.out W (bl_call HB1.out hC (Nat.le_refl _))
    obtain ⟨m0, m1, m2, m3, m4, m5⟩ := HEC.out W hC
    go_simp
    exact hK _ _ (hI.step AS.out (Below.refl _ _) hC.size (by decide) (stE_put (by decide) rfl))
   ·
    have q6 : vs 6 = .slice (some ⟨bM, oM, none⟩) n ca := stE_get (hI.2 6 (by simp [hw])) (by decide) rfl
    simp only [q6] at hK ⊢
    go_simp
    exact hK _ _ (hI.step AS.out (Below.refl _ _) hC.size (by decide) (stE_put (by decide) rfl))
   ·
    have q4 : vs 4 = .int .i64 (x0 : Int) := stE_get (hI.2 4 (by simp [hw])) (by decide) rfl
    have q7 : vs 7 = .int .i64 (n : Int) := stE_get (hI.2 7 (by simp [hw])) (by decide) rfl
    simp only [q4, q7] at hK ⊢
    go_simp
    exact hK _ _ (hI.step AS.out (Below.refl _ _) hC.size (by decide) (stE_put (by decide) rfl))
   ·
    have q1 : vs 1 = .slice (some ⟨bM, oM, none⟩) n ca := stE_get (hI.2 1 (by simp [hw])) (by decide) rfl
    have q8 : vs 8 = .int .i64 (mm : Int) := stE_get (hI.2 8 (by simp [hw])) (by decide) rfl
    simp only [q1, q8] at hK ⊢
    go_simp
    exact hK _ _ (hI.step AS.out (Below.refl _ _) hC.size (by decide) (stE_put (by decide) rfl))
   ·
    have q9 : vs 9 = .pointer (some ⟨bM, oM + mm * 6, none⟩) := stE_get (hI.2 9 (by simp [hw])) (by decide) rfl
    simp only [q9] at hK ⊢
    obtain ⟨c0, c1, c2, d0, d1, d2, d3⟩ := kk.out W (bl_call HB1.out hC (Nat.le_refl _))
    obtain ⟨m0, m1, m2, m3, m4, m5⟩ := HEC.out W hC
    go_simp
    exact hK _ _ (hI.step AS.out (Below.refl _ _) hC.size (by decide) (stE_put (by decide) rfl))
   have h8 : ls 12 = false := (hU 12 _ rfl (by simp [waits, Region.binds])).1
   go_simp
   exact hK _ _ (hI.step AS.out (bl_alloc (Below.refl _ _) _ (Nat.le_refl _)) hC.size (by decide) (stE_new hC.size h8))
  intro ls vs W hI hl hU
  have e6 : vs 10 = .agg #[.string sn, .int .i64 ma, .int .i64 mz, .int .i64 my, .int .i64 mu, .int .i64 ct] := stE_get (hI.2 10 (hl 10 (by decide))) (by decide) rfl
  have h4 := stE_at (hI.2 11 (hl 11 (by decide)))
  rw [ite_self] at h4
  have b4 := hI.1
  simp only [fillA, Act.put, List.setIfInBounds_toArray, List.set_cons_zero, List.set_cons_succ, Nat.zero_add, Nat.reduceAdd, e6]
  obtain ⟨gM, hg4, h4, hB4⟩ := h4
  rw [h4]
  have SgM : Hid (Blk W gM 33 (#[.string ByteArray.empty, .int .i64 0, .int .i64 0, .int .i64 0, .int .i64 0, .int .i64 0])) := hB4
  generalize vs 0 = u0, vs 1 = u1, vs 2 = u2, vs 3 = u3, vs 4 = u4, vs 5 = u5, vs 6 = u6, vs 7 = u7, vs 8 = u8, vs 9 = u9
  clear hI hl hU e6 h4 hB4 AS
  have z0 := SgM.out.cell 0
  have z1 := SgM.out.cell 1
  have z2 := SgM.out.cell 2
  have z3 := SgM.out.cell 3
  have z4 := SgM.out.cell 4
  have z5 := SgM.out.cell 5
  have fz0 := SgM.out.frozen 0
  have fz1 := SgM.out.frozen 1
  have fz2 := SgM.out.frozen 2
  have fz3 := SgM.out.frozen 3
  have fz4 := SgM.out.frozen 4
  have fz5 := SgM.out.frozen 5
  have hl4 := SgM.out.lt
  obtain ⟨V5, hV5⟩ : ∃ V, (((((W.setCell ⟨gM, 0, none⟩ (.string sn)).setCell ⟨gM, 1, none⟩ (.int .i64 ma)).setCell ⟨gM, 2, none⟩ (.int .i64 mz)).setCell ⟨gM, 3, none⟩ (.int .i64 my)).setCell ⟨gM, 4, none⟩ (.int .i64 mu)).setCell ⟨gM, 5, none⟩ (.int .i64 ct) = V := ⟨_, rfl⟩
  have M5 : Blk V5 gM 33 #[.string sn, .int .i64 ma, .int .i64 mz, .int .i64 my, .int .i64 mu, .int .i64 ct] := by rw [← hV5]; exact (((((SgM.out.set_ 0 _).set_ 1 _).set_ 2 _).set_ 3 _).set_ 4 _).set_ 5 _
  have HB5 : Hid (Below V1.heap.size V1 V5) := by rw [Hid, ← hV5]; exact bl_set (bl_set (bl_set (bl_set (bl_set (bl_set (b4) hg4 _) hg4 _) hg4 _) hg4 _) hg4 _) hg4 _
  have HM5 := Lib.hid M5
  have hgM := hg4
  go_simp
  clear z0 z1 z2 z3 z4 z5 fz0 fz1 fz2 fz3 fz4 fz5 hl4 hV5 M5 b4
  obtain ⟨q2, hq2⟩ : ∃ q, mz - ma = q := ⟨_, rfl⟩
  have wq2 : IntKind.i64.wrap q2 = q2 := by rw [IntKind.wrap_i64]; omega
  obtain ⟨d2v, hd2v⟩ : ∃ q, q2 + 1 = q := ⟨_, rfl⟩
  have wd2v : IntKind.i64.wrap d2v = d2v := by rw [IntKind.wrap_i64]; omega
  have zd2v : ¬ d2v = 0 := by omega
  have zbd2v : (d2v == 0) = false := by simp; omega
  obtain ⟨r2, hr2⟩ : ∃ q, ((x2 : Int)).tmod d2v = q := ⟨_, rfl⟩
  have br2 : 0 ≤ r2 ∧ r2 < d2v := by rw [← hr2, Int.tmod_eq_emod_of_nonneg (by omega)]; exact ⟨Int.emod_nonneg _ (by omega), Int.emod_lt_of_pos _ (by omega)⟩
  have wr2 : IntKind.i64.wrap r2 = r2 := by rw [IntKind.wrap_i64]; omega
  obtain ⟨sz, hsz⟩ : ∃ q, ma + r2 = q := ⟨_, rfl⟩
  have wsz : IntKind.i64.wrap sz = sz := by rw [IntKind.wrap_i64]; omega
  have rbsz : ma ≤ sz ∧ sz ≤ mz := by omega
  have cxx2 : IntKind.i64.wrap (x2 : Int) = x2 := by rw [IntKind.wrap_i64]; omega
  go_wp2_with fail
  refine wp_frameT ?_
  intro a0 ha0
  have tb4 : a0.tmps[4]? = some (.pointer (some ⟨w.heap.size + 1, 0, none⟩)) := by rw [ha0]; kernel_rfl
  have tb10 : a0.tmps[10]? = some (.pointer (some ⟨gM, 0, none⟩)) := by rw [ha0]; kernel_rfl
  have hsz : a0.tmps.size = 262 := by rw [ha0]; kernel_rfl
  refine wp_region_list (fun W => Below V5.heap.size V5 W) (fun w w' => Below w.heap.size w w')
   [isV (.pointer (some ⟨gM, 1, none⟩)), isV (.pointer (some ⟨gM, 1, none⟩)), isV (.int .i64 ma), isV (.pointer (some ⟨w.heap.size + 1, 2, none⟩)), isV (.int .u8 (x2 : Int)), isV (.int .i64 (x2 : Int)), isV (.pointer (some ⟨gM, 1, none⟩)), isV (.pointer (some ⟨gM, 2, none⟩)), isV (.int .i64 mz), isV (.pointer (some ⟨gM, 1, none⟩)), isV (.pointer (some ⟨gM, 1, none⟩)), isV (.int .i64 ma), isV (.int .i64 q2), isV (.int .i64 d2v), isV (.int .i64 r2), isV (.int .i64 sz)]
   (by kernel_rfl) (by kernel_rfl) (by kernel_rfl) (by simp) (by simp) (Below.refl _ _).drew ?stabB ?stepB ?finB
  case stabB => exact (StabL.is (StabL.is (StabL.is (StabL.is (StabL.is (StabL.is (StabL.is (StabL.is (StabL.is (StabL.is (StabL.is (StabL.is (StabL.is (StabL.is (StabL.is (StabL.is StabL.nil))))))))))))))))
  case stepB =>
   refine StepsL.isA ?_ (StepsL.isA ?_ (StepsL.isA ?_ (StepsL.isA ?_ (StepsL.isA ?_ (StepsL.isA ?_ (StepsL.isA ?_ (StepsL.isA ?_ (StepsL.isA ?_ (StepsL.isA ?_ (StepsL.isA ?_ (StepsL.isA ?_ (StepsL.isA ?_ (StepsL.isA ?_ (StepsL.isA ?_ (StepsL.isA ?_ StepsL.nil)))))))))))))))
   all_goals intro vs a W K ha hC hD hU hK
   all_goals try rw [if_pos (by rfl)]
   ·have r10 := fb ha (by kernel_rfl) tb10
    clear ha hU hD ha0
    go_simp
    exact hK _ hC (Below.refl _ _)
   ·have r53 := fq 53 0 ha hsz (by kernel_rfl) (by decide) (hD 0 (by simp [waits, Region.binds]))
    clear ha hU hD ha0
    go_simp
    exact hK _ hC (Below.refl _ _)
   ·have r54 := fq 54 1 ha hsz (by kernel_rfl) (by decide) (hD 1 (by simp [waits, Region.binds]))
    clear ha hU hD ha0
    have h5W : Below V5.heap.size V5 W := hC
    obtain ⟨c0, c1, c2, d0, d1, d2, d3⟩ := kk.out W (bl_call HB1.out (bl_call HB5.out h5W (Nat.le_refl _)) (Nat.le_refl _))
    have mM := HM5.out.bl h5W
    have g1 := mM.cell 1
    have g2 := mM.cell 2
    go_simp
    exact hK _ hC (Below.refl _ _)
   ·have r4 := fb ha (by kernel_rfl) tb4
    clear ha hU hD ha0
    go_simp
    exact hK _ hC (Below.refl _ _)
   ·have r56 := fq 56 3 ha hsz (by kernel_rfl) (by decide) (hD 3 (by simp [waits, Region.binds]))
    clear ha hU hD ha0
    have h5W : Below V5.heap.size V5 W := hC
    obtain ⟨c0, c1, c2, d0, d1, d2, d3⟩ := kk.out W (bl_call HB1.out (bl_call HB5.out h5W (Nat.le_refl _)) (Nat.le_refl _))
    have mM := HM5.out.bl h5W
    have g1 := mM.cell 1
    have g2 := mM.cell 2
    go_simp
    exact hK _ hC (Below.refl _ _)
   ·have r57 := fq 57 4 ha hsz (by kernel_rfl) (by decide) (hD 4 (by simp [waits, Region.binds]))
    clear ha hU hD ha0
    go_simp
    exact hK _ hC (Below.refl _ _)
   ·have r10 := fb ha (by kernel_rfl) tb10
    clear ha hU hD ha0
    go_simp
    exact hK _ hC (Below.refl _ _)
   ·have r59 := fq 59 6 ha hsz (by kernel_rfl) (by decide) (hD 6 (by simp [waits, Region.binds]))
    clear ha hU hD ha0
    go_simp
    exact hK _ hC (Below.refl _ _)
   ·have r60 := fq 60 7 ha hsz (by kernel_rfl) (by decide) (hD 7 (by simp [waits, Region.binds]))
    clear ha hU hD ha0
    have h5W : Below V5.heap.size V5 W := hC
    obtain ⟨c0, c1, c2, d0, d1, d2, d3⟩ := kk.out W (bl_call HB1.out (bl_call HB5.out h5W (Nat.le_refl _)) (Nat.le_refl _))
    have mM := HM5.out.bl h5W
    have g1 := mM.cell 1
    have g2 := mM.cell 2
    go_simp
    exact hK _ hC (Below.refl _ _)
   ·have r10 := fb ha (by kernel_rfl) tb10
    clear ha hU hD ha0
    go_simp
    exact hK _ hC (Below.refl _ _)
   ·have r62 := fq 62 9 ha hsz (by kernel_rfl) (by decide) (hD 9 (by simp [waits, Region.binds]))
    clear ha hU hD ha0
    go_simp
    exact hK _ hC (Below.refl _ _)
   ·have r63 := fq 63 10 ha hsz (by kernel_rfl) (by decide) (hD 10 (by simp [waits, Region.binds]))
    clear ha hU hD ha0
    have h5W : Below V5.heap.size V5 W := hC
    obtain ⟨c0, c1, c2, d0, d1, d2, d3⟩ := kk.out W (bl_call HB1.out (bl_call HB5.out h5W (Nat.le_refl _)) (Nat.le_refl _))
    have mM := HM5.out.bl h5W
    have g1 := mM.cell 1
    have g2 := mM.cell 2
    go_simp
    exact hK _ hC (Below.refl _ _)
   ·have r61 := fq 61 8 ha hsz (by kernel_rfl) (by decide) (hD 8 (by simp [waits, Region.binds]))
    have r64 := fq 64 11 ha hsz (by kernel_rfl) (by decide) (hD 11 (by simp [waits, Region.binds]))
    clear ha hU hD ha0
    go_simp
    first | exact hK _ hC (Below.refl _ _) | (simp only [hq2, wq2]; exact hK _ hC (Below.refl _ _))
   ·have r65 := fq 65 12 ha hsz (by kernel_rfl) (by decide) (hD 12 (by simp [waits, Region.binds]))
    clear ha hU hD ha0
    go_simp
    first | exact hK _ hC (Below.refl _ _) | (simp only [hd2v, wd2v]; exact hK _ hC (Below.refl _ _))
   ·have r58 := fq 58 5 ha hsz (by kernel_rfl) (by decide) (hD 5 (by simp [waits, Region.binds]))
    have r66 := fq 66 13 ha hsz (by kernel_rfl) (by decide) (hD 13 (by simp [waits, Region.binds]))
    clear ha hU hD ha0
    go_simp
    first | exact hK _ hC (Below.refl _ _) | (simp only [hr2, wr2]; exact hK _ hC (Below.refl _ _))
   have r55 := fq 55 2 ha hsz (by kernel_rfl) (by decide) (hD 2 (by simp [waits, Region.binds]))
   have r67 := fq 67 14 ha hsz (by kernel_rfl) (by decide) (hD 14 (by simp [waits, Region.binds]))
   clear ha hU hD ha0
   go_simp
   first | exact hK _ hC (Below.refl _ _) | (simp only [hsz, wsz]; exact hK _ hC (Below.refl _ _))
  intro vs W hC hE hU
  rw [ha0]
  clear hU hsz tb4 tb10
  have e15 : vs 15 = .int .i64 sz := hE 15 (by simp)
  simp only [fillA, Act.put, List.setIfInBounds_toArray, List.set_cons_zero, List.set_cons_succ, Nat.zero_add, Nat.reduceAdd, e15]
  generalize vs 0 = u0, vs 1 = u1, vs 2 = u2, vs 3 = u3, vs 4 = u4, vs 5 = u5, vs 6 = u6, vs 7 = u7, vs 8 = u8, vs 9 = u9, vs 10 = u10, vs 11 = u11, vs 12 = u12, vs 13 = u13, vs 14 = u14
  clear hE e15 hq2 wq2 wd2v zd2v zbd2v wr2 wsz cxx2
  have HB6 : Hid (Below V5.heap.size V5 W) := hC
  obtain ⟨V6, hV6⟩ : ∃ V : World, V = W := ⟨_, rfl⟩
  subst hV6
  clear hC
  go_simp
  obtain ⟨q3, hq3⟩ : ∃ q, mu - my = q := ⟨_, rfl⟩
  have wq3 : IntKind.i64.wrap q3 = q3 := by rw [IntKind.wrap_i64]; omega
  obtain ⟨d3v, hd3v⟩ : ∃ q, q3 + 1 = q := ⟨_, rfl⟩
  have wd3v : IntKind.i64.wrap d3v = d3v := by rw [IntKind.wrap_i64]; omega
  have zd3v : ¬ d3v = 0 := by omega
  have zbd3v : (d3v == 0) = false := by simp; omega
  obtain ⟨r3, hr3⟩ : ∃ q, ((x3 : Int)).tmod d3v = q := ⟨_, rfl⟩
  have br3 : 0 ≤ r3 ∧ r3 < d3v := by rw [← hr3, Int.tmod_eq_emod_of_nonneg (by omega)]; exact ⟨Int.emod_nonneg _ (by omega), Int.emod_lt_of_pos _ (by omega)⟩
  have wr3 : IntKind.i64.wrap r3 = r3 := by rw [IntKind.wrap_i64]; omega
  obtain ⟨wr, hwr⟩ : ∃ q, my + r3 = q := ⟨_, rfl⟩
  have wwr : IntKind.i64.wrap wr = wr := by rw [IntKind.wrap_i64]; omega
  have rbwr : my ≤ wr ∧ wr ≤ mu := by omega
  have cxx3 : IntKind.i64.wrap (x3 : Int) = x3 := by rw [IntKind.wrap_i64]; omega
  go_wp2_with fail
  refine wp_frameT ?_
  intro a0 ha0
  have tb4 : a0.tmps[4]? = some (.pointer (some ⟨w.heap.size + 1, 0, none⟩)) := by rw [ha0]; kernel_rfl
  have tb10 : a0.tmps[10]? = some (.pointer (some ⟨gM, 0, none⟩)) := by rw [ha0]; kernel_rfl
  have hsz : a0.tmps.size = 262 := by rw [ha0]; kernel_rfl
  refine wp_region_list (fun W => Below V6.heap.size V6 W) (fun w w' => Below w.heap.size w w')
   [isV (.pointer (some ⟨gM, 3, none⟩)), isV (.pointer (some ⟨gM, 3, none⟩)), isV (.int .i64 my), isV (.pointer (some ⟨w.heap.size + 1, 3, none⟩)), isV (.int .u8 (x3 : Int)), isV (.int .i64 (x3 : Int)), isV (.pointer (some ⟨gM, 3, none⟩)), isV (.pointer (some ⟨gM, 4, none⟩)), isV (.int .i64 mu), isV (.pointer (some ⟨gM, 3, none⟩)), isV (.pointer (some ⟨gM, 3, none⟩)), isV (.int .i64 my), isV (.int .i64 q3), isV (.int .i64 d3v), isV (.int .i64 r3), isV (.int .i64 wr)]
   (by kernel_rfl) (by kernel_rfl) (by kernel_rfl) (by simp) (by simp) (Below.refl _ _).drew ?stabC ?stepC ?finC
  case stabC => exact (StabL.is (StabL.is (StabL.is (StabL.is (StabL.is (StabL.is (StabL.is (StabL.is (StabL.is (StabL.is (StabL.is (StabL.is (StabL.is (StabL.is (StabL.is (StabL.is StabL.nil))))))))))))))))
  case stepC =>
   refine StepsL.isA ?_ (StepsL.isA ?_ (StepsL.isA ?_ (StepsL.isA ?_ (StepsL.isA ?_ (StepsL.isA ?_ (StepsL.isA ?_ (StepsL.isA ?_ (StepsL.isA ?_ (StepsL.isA ?_ (StepsL.isA ?_ (StepsL.isA ?_ (StepsL.isA ?_ (StepsL.isA ?_ (StepsL.isA ?_ (StepsL.isA ?_ StepsL.nil)))))))))))))))
   all_goals intro vs a W K ha hC hD hU hK
   all_goals try rw [if_pos (by rfl)]
   ·have r10 := fb ha (by kernel_rfl) tb10
    clear ha hU hD ha0
    go_simp
    exact hK _ hC (Below.refl _ _)
   ·have r69 := fq 69 0 ha hsz (by kernel_rfl) (by decide) (hD 0 (by simp [waits, Region.binds]))
    clear ha hU hD ha0
    go_simp
    exact hK _ hC (Below.refl _ _)
   ·have r70 := fq 70 1 ha hsz (by kernel_rfl) (by decide) (hD 1 (by simp [waits, Region.binds]))
    clear ha hU hD ha0
    have h5W : Below V5.heap.size V5 W := bl_call HB6.out hC (Nat.le_refl _)
    obtain ⟨c0, c1, c2, d0, d1, d2, d3⟩ := kk.out W (bl_call HB1.out (bl_call HB5.out h5W (Nat.le_refl _)) (Nat.le_refl _))
    have mM := HM5.out.bl h5W
    have g1 := mM.cell 3
    have g2 := mM.cell 4
    go_simp
    exact hK _ hC (Below.refl _ _)
   ·have r4 := fb ha (by kernel_rfl) tb4
    clear ha hU hD ha0
    go_simp
    exact hK _ hC (Below.refl _ _)
   ·have r72 := fg 72 3 ha hsz (by kernel_rfl) (by decide)
    have q3 : vs 3 = .pointer (some ⟨w.heap.size + 1, 3, none⟩) := hD 3 (by simp [waits, Region.binds])
    rw [q3] at r72
    clear ha hU hD ha0
    have h5W : Below V5.heap.size V5 W := bl_call HB6.out hC (Nat.le_refl _)
    obtain ⟨c0, c1, c2, d0, d1, d2, d3⟩ := kk.out W (bl_call HB1.out (bl_call HB5.out h5W (Nat.le_refl _)) (Nat.le_refl _))
    have mM := HM5.out.bl h5W
    have g1 := mM.cell 3
    have g2 := mM.cell 4
    go_simp
    exact hK _ hC (Below.refl _ _)
   ·have r73 := fq 73 4 ha hsz (by kernel_rfl) (by decide) (hD 4 (by simp [waits, Region.binds]))
    clear ha hU hD ha0
    go_simp
    exact hK _ hC (Below.refl _ _)
   ·have r10 := fb ha (by kernel_rfl) tb10
    clear ha hU hD ha0
    go_simp
    exact hK _ hC (Below.refl _ _)
   ·have r75 := fq 75 6 ha hsz (by kernel_rfl) (by decide) (hD 6 (by simp [waits, Region.binds]))
    clear ha hU hD ha0
    go_simp
    exact hK _ hC (Below.refl _ _)
   ·have r76 := fq 76 7 ha hsz (by kernel_rfl) (by decide) (hD 7 (by simp [waits, Region.binds]))
    clear ha hU hD ha0
    have h5W : Below V5.heap.size V5 W := bl_call HB6.out hC (Nat.le_refl _)
    obtain ⟨c0, c1, c2, d0, d1, d2, d3⟩ := kk.out W (bl_call HB1.out (bl_call HB5.out h5W (Nat.le_refl _)) (Nat.le_refl _))
    have mM := HM5.out.bl h5W
    have g1 := mM.cell 3
    have g2 := mM.cell 4
    go_simp
    exact hK _ hC (Below.refl _ _)
   ·have r10 := fb ha (by kernel_rfl) tb10
    clear ha hU hD ha0
    go_simp
    exact hK _ hC (Below.refl _ _)
   ·have r78 := fq 78 9 ha hsz (by kernel_rfl) (by decide) (hD 9 (by simp [waits, Region.binds]))
    clear ha hU hD ha0
    go_simp
    exact hK _ hC (Below.refl _ _)
   ·have r79 := fq 79 10 ha hsz (by kernel_rfl) (by decide) (hD 10 (by simp [waits, Region.binds]))
    clear ha hU hD ha0
    have h5W : Below V5.heap.size V5 W := bl_call HB6.out hC (Nat.le_refl _)
    obtain ⟨c0, c1, c2, d0, d1, d2, d3⟩ := kk.out W (bl_call HB1.out (bl_call HB5.out h5W (Nat.le_refl _)) (Nat.le_refl _))
    have mM := HM5.out.bl h5W
    have g1 := mM.cell 3
    have g2 := mM.cell 4
    go_simp
    exact hK _ hC (Below.refl _ _)
   ·have r77 := fq 77 8 ha hsz (by kernel_rfl) (by decide) (hD 8 (by simp [waits, Region.binds]))
    have r80 := fq 80 11 ha hsz (by kernel_rfl) (by decide) (hD 11 (by simp [waits, Region.binds]))
    clear ha hU hD ha0
    go_simp
    first | exact hK _ hC (Below.refl _ _) | (simp only [hq3, wq3]; exact hK _ hC (Below.refl _ _))
   ·have r81 := fq 81 12 ha hsz (by kernel_rfl) (by decide) (hD 12 (by simp [waits, Region.binds]))
    clear ha hU hD ha0
    go_simp
    first | exact hK _ hC (Below.refl _ _) | (simp only [hd3v, wd3v]; exact hK _ hC (Below.refl _ _))
   ·have r74 := fq 74 5 ha hsz (by kernel_rfl) (by decide) (hD 5 (by simp [waits, Region.binds]))
    have r82 := fq 82 13 ha hsz (by kernel_rfl) (by decide) (hD 13 (by simp [waits, Region.binds]))
    clear ha hU hD ha0
    go_simp
    first | exact hK _ hC (Below.refl _ _) | (simp only [hr3, wr3]; exact hK _ hC (Below.refl _ _))
   have r71 := fq 71 2 ha hsz (by kernel_rfl) (by decide) (hD 2 (by simp [waits, Region.binds]))
   have r83 := fq 83 14 ha hsz (by kernel_rfl) (by decide) (hD 14 (by simp [waits, Region.binds]))
   clear ha hU hD ha0
   go_simp
   first | exact hK _ hC (Below.refl _ _) | (simp only [hwr, wwr]; exact hK _ hC (Below.refl _ _))
  intro vs W hC hE hU
  rw [ha0]
  clear hU hsz tb4 tb10
  have e15 : vs 15 = .int .i64 wr := hE 15 (by simp)
  simp only [fillA, Act.put, List.setIfInBounds_toArray, List.set_cons_zero, List.set_cons_succ, Nat.zero_add, Nat.reduceAdd, e15]
  generalize vs 0 = u0, vs 1 = u1, vs 2 = u2, vs 3 = u3, vs 4 = u4, vs 5 = u5, vs 6 = u6, vs 7 = u7, vs 8 = u8, vs 9 = u9, vs 10 = u10, vs 11 = u11, vs 12 = u12, vs 13 = u13, vs 14 = u14
  clear hE e15 hq3 wq3 wd3v zd3v zbd3v wr3 wwr cxx3
  have HB7 : Hid (Below V5.heap.size V5 W) := bl_call HB6.out hC (Nat.le_refl _)
  obtain ⟨V7, hV7⟩ : ∃ V : World, V = W := ⟨_, rfl⟩
  subst hV7
  clear hC
  go_simp
  have hb : Hid (∀ V, Below V5.heap.size V5 V → Below w.heap.size w V) := fun V h => bl_call HBw1.out (bl_call HB5.out h (Nat.le_refl _)) (Nat.le_refl _)
  have hbW : Hid (∀ V, Below V5.heap.size V5 V → Below WH.heap.size WH V) := fun V h => bl_call HB1.out (bl_call HB5.out h (Nat.le_refl _)) (Nat.le_refl _)
  have M7 := HM5.out.bl HB7.out
  have z1 := M7.cell 1
  have z2 := M7.cell 2
  have z3 := M7.cell 3
  have z4 := M7.cell 4
  have fz1 := M7.frozen 1
  have fz2 := M7.frozen 2
  have fz3 := M7.frozen 3
  have fz4 := M7.frozen 4
  have hl4 := M7.lt
  obtain ⟨V8, hV8⟩ : ∃ V, (((V7.setCell ⟨gM, 1, none⟩ (.int .i64 sz)).setCell ⟨gM, 2, none⟩ (.int .i64 sz)).setCell ⟨gM, 3, none⟩ (.int .i64 wr)).setCell ⟨gM, 4, none⟩ (.int .i64 wr) = V := ⟨_, rfl⟩
  have M8 : Blk V8 gM 33 #[.string sn, .int .i64 sz, .int .i64 sz, .int .i64 wr, .int .i64 wr, .int .i64 ct] := by rw [← hV8]; exact (((M7.set_ 1 _).set_ 2 _).set_ 3 _).set_ 4 _
  have hgM5 : gM < V5.heap.size := HM5.out.lt
  have hwV1 : WH.heap.size ≤ V1.heap.size := HB1.out.size
  have HB8 : Hid (Below V1.heap.size V1 V8) := by rw [Hid, ← hV8]; exact bl_set (bl_set (bl_set (bl_set (bl_call HB5.out HB7.out (Nat.le_refl _)) hgM _) hgM _) hgM _) hgM _
  have HM8 := Lib.hid M8
  obtain ⟨gS, hgS⟩ : ∃ x, V8.heap.size = x := ⟨_, rfl⟩
  obtain ⟨V9, hV9⟩ : ∃ V, V8.alloc (.cells #[.string sn, .int .i64 sz, .int .i64 sz, .int .i64 wr, .int .i64 wr, .int .i64 ct] 33) = V := ⟨_, rfl⟩
  have NgS : Blk V9 gS 33 #[.string sn, .int .i64 sz, .int .i64 sz, .int .i64 wr, .int .i64 wr, .int .i64 ct] := by rw [← hV9]; exact Blk.new _ _ _ hgS.symm
  obtain ⟨gO, hgO⟩ : ∃ x, V9.heap.size = x := ⟨_, rfl⟩
  obtain ⟨V10, hV10⟩ : ∃ V, V9.alloc (.cells #[.int .i64 0, .int .i64 0, .slice (some ⟨gS, 0, none⟩) 1 1] 26) = V := ⟨_, rfl⟩
  have NgO : Blk V10 gO 26 #[.int .i64 0, .int .i64 0, .slice (some ⟨gS, 0, none⟩) 1 1] := by rw [← hV10]; exact Blk.new _ _ _ hgO.symm
  have HB10 : Hid (Below V8.heap.size V8 V10) := by rw [Hid, ← hV10, ← hV9]; exact bl_alloc (bl_alloc (Below.refl _ _) _ (Nat.le_refl _)) _ (Nat.le_refl _)
  have HS10 : Hid (Blk V10 gS 33 #[.string sn, .int .i64 sz, .int .i64 sz, .int .i64 wr, .int .i64 wr, .int .i64 ct]) := by rw [Hid, ← hV10]; exact NgS.alloc _
  have HO10 := Lib.hid NgO
  have HB18 : Hid (∀ V, Below V8.heap.size V8 V → Below V1.heap.size V1 V) := fun V h => bl_call HB8.out h (Nat.le_refl _)
  have HWV : Hid (∀ V, Below V8.heap.size V8 V → Below WH.heap.size WH V) := fun V h => bl_call HB1.out (HB18.out V h) (Nat.le_refl _)
  have HwV : Hid (∀ V, Below V8.heap.size V8 V → Below w.heap.size w V) := fun V h => bl_call HBw1.out (HB18.out V h) (Nat.le_refl _)
  obtain ⟨nn, hnn⟩ : ∃ q, ((x1 : Int)).tmod ct = q := ⟨_, rfl⟩
  have hnb : 0 ≤ nn ∧ nn < ct := by rw [← hnn, Int.tmod_eq_emod_of_nonneg (by omega)]; exact ⟨Int.emod_nonneg _ (by omega), Int.emod_lt_of_pos _ (by omega)⟩
  have wnn : IntKind.i64.wrap nn = nn := by rw [IntKind.wrap_i64]; omega
  have cx1 : IntKind.i64.wrap (x1 : Int) = x1 := by rw [IntKind.wrap_i64]; omega
  have zct : ¬ ct = 0 := by omega
  have zbct : (ct == 0) = false := by simp; omega
  have n0 := M8.cell 0
  have n1 := M8.cell 1
  have n2 := M8.cell 2
  have n3 := M8.cell 3
  have n4 := M8.cell 4
  have n5 := M8.cell 5
  have M10 := M8.bl HB10.out
  have n5b := M10.cell 5
  have o0 := NgO.cell 0
  have o1 := NgO.cell 1
  have o2 := NgO.cell 2
  obtain ⟨c0, c1, c2, d0, d1, d2, d3⟩ := kk.out V10 (HWV.out V10 HB10.out)
  go_wp2_with fail
  clear c0 c1 c2 d0 d1 d2 d3 n0 n1 n2 n3 n4 n5 n5b o0 o1 o2 M10 M8 NgS NgO M7 z1 z2 z3 z4 fz1 fz2 fz3 fz4 hl4 hV8 hV9 hV10 hgS hgO hnn wnn cx1 zbct HM5 HB7 HB6 hb hbW
  have hszb : 1 ≤ sz ∧ sz ≤ 20000 := by omega
  have hwrb : 0 ≤ wr ∧ wr ≤ 20 := by omega
  have hctb : 1 ≤ ct ∧ ct ≤ 8 := by omega
  have hmb1 : 0 ≤ wr * nn := Int.mul_nonneg hwrb.1 hnb.1
  have hmb2 : wr * nn ≤ 20 * 8 := Int.mul_le_mul hwrb.2 (by omega) hnb.1 (by decide)
  have hlb1 : 0 ≤ wr * (ct - 1) := Int.mul_nonneg hwrb.1 (by omega)
  have hlb2 : wr * (ct - 1) ≤ 20 * 8 := Int.mul_le_mul hwrb.2 (by omega) (by omega) (by decide)
  have HSZ : Hid (∀ c : Int, 0 ≤ c ∧ c < ct → sizesR (shopW sn.data.toList sz wr ct) [] 0 c = ((sz + wr * c, sz + wr * c), 0)) := fun c hc => one_sizes HFR.out hszb hwrb hctb hc
  have HSV : Hid (∀ V, Below V10.heap.size V10 V → Moulds (fun _ => True) V (some ⟨gS, 0, none⟩) 1 (shopW sn.data.toList sz wr ct).moulds) := fun V h => shopW_blk hss (HS10.out.bl h)
  refine (ksizes_any (s := shopW sn.data.toList sz wr ct) (l := []) 0 nn V10 (HSV.out V10 (Below.refl _ _)) (SliceOf.nil _ _ _ _ _) (Nat.le_refl _) rfl rfl).mono ?_
  rw [HSZ.out nn hnb]
  rintro e V11 ⟨rfl, c11⟩
  dsimp only
  obtain ⟨md, hmd⟩ : ∃ q, sz + wr * nn = q := ⟨_, rfl⟩
  rw [hmd]
  have HMD := Lib.hid hmd
  have hmdb : 0 ≤ md ∧ md ≤ 20200 := by omega
  clear hmd
  obtain ⟨gD, hgD⟩ : ∃ x, V11.heap.size = x := ⟨_, rfl⟩
  obtain ⟨V12, hV12⟩ : ∃ V, V11.alloc (.cells #[.int .i64 md, .int .i64 md] 23) = V := ⟨_, rfl⟩
  have NgD : Blk V12 gD 23 #[.int .i64 md, .int .i64 md] := by rw [← hV12]; exact Blk.new _ _ _ hgD.symm
  obtain ⟨gF, hgF⟩ : ∃ x, V12.heap.size = x := ⟨_, rfl⟩
  obtain ⟨V13, hV13⟩ : ∃ V, V12.alloc (.cells #[.string ⟨#[115, 105, 122, 101]⟩, .int .i64 sz, .int .i64 0] 39) = V := ⟨_, rfl⟩
  have NgF : Blk V13 gF 39 #[.string ⟨#[115, 105, 122, 101]⟩, .int .i64 sz, .int .i64 0] := by rw [← hV13]; exact Blk.new _ _ _ hgF.symm
  obtain ⟨gC, hgC⟩ : ∃ x, V13.heap.size = x := ⟨_, rfl⟩
  obtain ⟨V14a, hV14a⟩ : ∃ V, V13.alloc (.cells #[.slice none 0 0, .slice none 0 0, .slice none 0 0] 44) = V := ⟨_, rfl⟩
  have NgC : Blk V14a gC 44 #[.slice none 0 0, .slice none 0 0, .slice none 0 0] := by rw [← hV14a]; exact Blk.new _ _ _ hgC.symm
  have Z14 := NgC
  have zc0 := Z14.cell 0
  have zc1 := Z14.cell 1
  have zc2 := Z14.cell 2
  have fc0 := Z14.frozen 0
  have fc1 := Z14.frozen 1
  have fc2 := Z14.frozen 2
  have lc := Z14.lt
  obtain ⟨V14, hV14⟩ : ∃ V, ((V14a.setCell ⟨gC, 0, none⟩ (.slice (some ⟨gF, 0, none⟩) 1 1)).setCell ⟨gC, 1, none⟩ (.slice none 0 0)).setCell ⟨gC, 2, none⟩ (.slice none 0 0) = V := ⟨_, rfl⟩
  clear NgC
  have NgC : Blk V14 gC 44 #[.slice (some ⟨gF, 0, none⟩) 1 1, .slice none 0 0, .slice none 0 0] := by rw [← hV14]; exact ((Z14.set_ 0 _).set_ 1 _).set_ 2 _
  have far14 : ∀ {g : Nat} {t : TypeId} {c : Array Value}, g ≠ gC → Blk V14a g t c → Blk V14 g t c := fun h hB => by rw [← hV14]; exact ((hB.far h _).far h _).far h _
  have b13 : Below V8.heap.size V8 V13 := by rw [← hV13, ← hV12]; exact bl_alloc (bl_alloc (bl_call HB10.out c11 (Nat.le_refl _)) _ (Nat.le_refl _)) _ (Nat.le_refl _)
  have hC8 : V8.heap.size ≤ gC := by rw [← hgC]; exact b13.size
  have HB14 : Hid (Below V8.heap.size V8 V14) := by rw [Hid, ← hV14, ← hV14a]; exact bl_set (bl_set (bl_set (bl_alloc b13 _ (Nat.le_refl _)) hC8 _) hC8 _) hC8 _
  have hs12 : V12.heap.size = gD + 1 := by rw [← hV12]; simp [hgD]
  have hs13 : V13.heap.size = gF + 1 := by rw [← hV13]; simp [hgF]
  have hs14 : V14.heap.size = gC + 1 := by rw [← hV14, ← hV14a]; simp [hgC]
  have hgDF : gD < gF := by omega
  have hgFC : gF < gC := by omega
  clear hs12 hs13 hs14
  have hV8D : V8.heap.size ≤ gD := by have := HB10.out.size; have := c11.size; omega
  have HD14 : Hid (Blk V14 gD 23 #[.int .i64 md, .int .i64 md]) := by refine far14 (by omega) ?_; rw [← hV14a, ← hV13]; exact (NgD.alloc _).alloc _
  have HF14 : Hid (Blk V14 gF 39 #[.string ⟨#[115, 105, 122, 101]⟩, .int .i64 sz, .int .i64 0]) := by refine far14 (by omega) ?_; rw [← hV14a]; exact NgF.alloc _
  have HS14 : Hid (Blk V14 gS 33 #[.string sn, .int .i64 sz, .int .i64 sz, .int .i64 wr, .int .i64 wr, .int .i64 ct]) := by refine far14 (by have := (HS10.out.bl c11).lt; omega) ?_; rw [← hV14a, ← hV13, ← hV12]; exact (((HS10.out.bl c11).alloc _).alloc _).alloc _
  have HO14 : Hid (Blk V14 gO 26 #[.int .i64 0, .int .i64 0, .slice (some ⟨gS, 0, none⟩) 1 1]) := by refine far14 (by have := (HO10.out.bl c11).lt; omega) ?_; rw [← hV14a, ← hV13, ← hV12]; exact (((HO10.out.bl c11).alloc _).alloc _).alloc _
  have HC14 := Lib.hid NgC
  have HM14 := Lib.hid (HM8.out.bl HB14.out)
  have hgM8 : gM < gD := Nat.lt_of_lt_of_le HM8.out.lt hV8D
  have hgS8 : gS < gD ∧ gO < gD := ⟨by have := (HS10.out.bl c11).lt; omega, by have := (HO10.out.bl c11).lt; omega⟩
  have dd0 := NgD.cell 0
  have dd1 := NgD.cell 1
  have mct := HM14.out.cell 5
  have hk1w : IntKind.i64.wrap (ct - 1) = ct - 1 := by rw [IntKind.wrap_i64]; omega
  by_cases hk1 : 1 < ct
  ·obtain ⟨gP, hgP⟩ : ∃ x, V14.heap.size = x := ⟨_, rfl⟩
   obtain ⟨V15, hV15⟩ : ∃ V, V14.alloc (.cells #[.int .i64 wr] 3) = V := ⟨_, rfl⟩
   have NgP : Blk V15 gP 3 #[.int .i64 wr] := by rw [← hV15]; exact Blk.new _ _ _ hgP.symm
   obtain ⟨gK, hgK⟩ : ∃ x, V15.heap.size = x := ⟨_, rfl⟩
   obtain ⟨V16, hV16⟩ : ∃ V, V15.alloc (.cells #[.string ⟨#[119, 111, 114, 110]⟩, .int .i64 1, .int .i64 (ct - 1), .slice (some ⟨gP, 0, none⟩) 1 1] 47) = V := ⟨_, rfl⟩
   have NgK : Blk V16 gK 47 #[.string ⟨#[119, 111, 114, 110]⟩, .int .i64 1, .int .i64 (ct - 1), .slice (some ⟨gP, 0, none⟩) 1 1] := by rw [← hV16]; exact Blk.new _ _ _ hgK.symm
   have C16 : Blk V16 gC 44 #[.slice (some ⟨gF, 0, none⟩) 1 1, .slice none 0 0, .slice none 0 0] := by rw [← hV16, ← hV15]; exact (HC14.out.alloc _).alloc _
   have t0 := C16.cell 0
   have t1 := C16.cell 1
   have t2 := C16.cell 2
   have ft1 := C16.frozen 1
   have lt1 := C16.lt
   obtain ⟨V17, hV17⟩ : ∃ V, V16.setCell ⟨gC, 1, none⟩ (.slice (some ⟨gK, 0, none⟩) 1 1) = V := ⟨_, rfl⟩
   have hgPK : gC < gP ∧ gP < gK := by have h1 := NgP.lt; have h2 := HC14.out.lt; omega
   have kp17 : Keeps (fun k => k ≠ gC) V14 V17 := by rw [← hV17, ← hV16, ← hV15]; exact ((Keeps.alloc _ _).trans (Keeps.alloc _ _)).trans (Keeps.setCell _ _ _ (by simp))
   have P17 : Blk V17 gP 3 #[.int .i64 wr] := by rw [← hV17, ← hV16]; exact (NgP.alloc _).far (by simp; omega) _
   have K17 : Blk V17 gK 47 #[.string ⟨#[119, 111, 114, 110]⟩, .int .i64 1, .int .i64 (ct - 1), .slice (some ⟨gP, 0, none⟩) 1 1] := by rw [← hV17]; exact NgK.far (by simp; omega) _
   have C17 : Blk V17 gC 44 #[.slice (some ⟨gF, 0, none⟩) 1 1, .slice (some ⟨gK, 0, none⟩) 1 1, .slice none 0 0] := by rw [← hV17]; exact C16.set_ 1 _
   have b17 : Below V8.heap.size V8 V17 := by rw [← hV17, ← hV16, ← hV15]; exact bl_set (bl_alloc (bl_alloc HB14.out _ (Nat.le_refl _)) _ (Nat.le_refl _)) (by dsimp only; omega) _
   have CA17 : Causes (fun k => k ≠ gC) V17 (some ⟨gK, 0, none⟩) 1 (if 1 < ct then [⟨[119, 111, 114, 110], 1, ct - 1, [wr]⟩] else []) := by rw [if_pos hk1]; exact causeW_blk K17 P17 (by omega) (by omega)
   have D17 : Blk V17 gD 23 #[.int .i64 md, .int .i64 md] := (kp17.block gD (show gD ≠ gC by omega) HD14.out.lt).trans HD14.out
   have dm := D17.cell 0
   have u0 := C17.cell 0
   have u1 := C17.cell 1
   have u2 := C17.cell 2
   have fu2 := C17.frozen 2
   have lu2 := C17.lt
   obtain ⟨gN, hgN⟩ : ∃ x, V17.heap.size = x := ⟨_, rfl⟩
   obtain ⟨V18, hV18⟩ : ∃ V, V17.alloc (.cells #[.int .i64 0, .int .i64 md] 49) = V := ⟨_, rfl⟩
   have NgN : Blk V18 gN 49 #[.int .i64 0, .int .i64 md] := by rw [← hV18]; exact Blk.new _ _ _ hgN.symm
   have C18 : Blk V18 gC 44 #[.slice (some ⟨gF, 0, none⟩) 1 1, .slice (some ⟨gK, 0, none⟩) 1 1, .slice none 0 0] := by rw [← hV18]; exact C17.alloc _
   have v0 := C18.cell 0
   have v1 := C18.cell 1
   have v2 := C18.cell 2
   have fv2 := C18.frozen 2
   have lv2 := C18.lt
   obtain ⟨V19, hV19⟩ : ∃ V, V18.setCell ⟨gC, 2, none⟩ (.slice (some ⟨gN, 0, none⟩) 1 1) = V := ⟨_, rfl⟩
   have hgNC : gC < gN := by rw [← hgN]; exact C17.lt
   have C19 : Blk V19 gC 44 #[.slice (some ⟨gF, 0, none⟩) 1 1, .slice (some ⟨gK, 0, none⟩) 1 1, .slice (some ⟨gN, 0, none⟩) 1 1] := by rw [← hV19]; exact C18.set_ 2 _
   have N19 : Blk V19 gN 49 #[.int .i64 0, .int .i64 md] := by rw [← hV19]; exact NgN.far (by simp; omega) _
   have kp19 : Keeps (fun k => k ≠ gC) V17 V19 := by rw [← hV19, ← hV18]; exact (Keeps.alloc _ _).trans (Keeps.setCell _ _ _ (by simp))
   have HB19 : Hid (Below V8.heap.size V8 V19) := by rw [Hid, ← hV19, ← hV18]; exact bl_set (bl_alloc b17 _ (Nat.le_refl _)) (by dsimp only; omega) _
   have HKP := Lib.hid kp19
   have w0 := C19.cell 0
   have w1 := C19.cell 1
   have w2 := C19.cell 2
   have FE17 : Feats (fun k => k ≠ gC) V17 (some ⟨gF, 0, none⟩) 1 [⟨[115, 105, 122, 101], sz, 0⟩] := featW_blk ((kp17.block gF (show gF ≠ gC by omega) HF14.out.lt).trans HF14.out) (by omega)
   have HCL : Hid (∀ (V : World) (N : Option Addr) (sh : Int), Keeps (fun k => k ≠ gC) V17 V → Meass (fun _ => True) V N 1 [⟨0, sh⟩] → ClaimAt (fun _ => True) V (some ⟨gF, 0, none⟩) 1 (some ⟨gK, 0, none⟩) 1 N 1 (claimW sz wr ct sh)) := fun V N sh hk hN => claimW_at FE17 CA17 hk hN
   have HK17 : Hid (Keeps (fun k => k ≠ gC) V14 V17) := kp17
   go_wp2_with fail
   clear dd0 dd1 mct hV12 hV13 hV14a hV14 hgD hgF hgC NgD NgF NgC Z14 far14 b13 zc0 zc1 zc2 fc0 fc1 fc2 lc c11 dm u0 u1 u2 fu2 lu2 v0 v1 v2 fv2 lv2 w0 w1 w2 hV18 hV19 hgN NgN C17 C18 D17 kp17 kp19 b17 FE17 CA17 t0 t1 t2 ft1 lt1 hV15 hV16 hV17 hgP hgK NgP NgK P17 K17 C16
   have hne := HMD.out
   have hs0 : 0 ≤ sz + wr * nn ∧ sz + wr * nn ≤ 200000 := by omega
   obtain ⟨ML, YL, hM, hMi, hYi⟩ := wornMust hszb hwrb (k := ct) (by omega) hnb hs0
   rw [hne] at hM
   refine (bmust_any V19 (HTb.out V19 (HwV.out V19 HB19.out)) (HCL.out V19 _ md HKP.out (measW_blk N19 trivial)) (Nat.le_refl _) (Nat.le_refl _)).mono ?_
   rw [hM]
   rintro e V20 ⟨A1, n1, k1, A2, n2, k2, rfl, hA1, hA2, c20⟩
   dsimp only at hA1 hA2 ⊢
   have C20 := C19.bl c20
   have HN20 : Hid (Blk V20 gN 49 #[.int .i64 0, .int .i64 md]) := N19.bl c20
   have hn1 := hA1.len
   have hn2 := hA2.len
   rw [hn1] at hMi
   rw [hn2] at hYi
   have hl1 := hA1.le
   have hl2 := hA2.le
   have HB20 : Hid (Below V8.heap.size V8 V20) := bl_call HB19.out c20 (Nat.le_refl _)
   have HKP20 : Hid (Keeps (fun k => k ≠ gC) V17 V20) := HKP.out.trans (Keeps.below c20)
   have HC20 := Lib.hid C20
   have HM20 := Lib.hid (HM8.out.bl HB20.out)
   clear hA1 hA2 c20 C19 N19 C20 HKP HB19 hM
   obtain ⟨bN, hbN⟩ : ∃ b, decide (0 < nn) = b := ⟨_, rfl⟩
   obtain ⟨bW, hbW⟩ : ∃ b, decide (0 < wr) = b := ⟨_, rfl⟩
   have q1 : decide (0 < (n1 : Int)) = (bN && bW) := by rw [← hbN, ← hbW, Bool.eq_iff_iff]; simp; omega
   have q2 : decide (0 < (n2 : Int)) = (!bW || bN) := by rw [← hbN, ← hbW, Bool.eq_iff_iff]; simp; omega
   have q3 : (wr == 0) = !bW := by rw [← hbW, Bool.eq_iff_iff]; simp; omega
   have q4 : decide (wr = 0) = !bW := by rw [← hbW, Bool.eq_iff_iff]; simp; omega
   have mct := HM20.out.cell 5
   have C20 := HC20.out
   have w0 := C20.cell 0
   have w1 := C20.cell 1
   have w2 := C20.cell 2
   cases bN <;> cases bW
   all_goals
    simp only [Bool.not_true, Bool.not_false, Bool.and_true, Bool.and_false, Bool.true_and, Bool.false_and, Bool.or_true, Bool.or_false, Bool.true_or, Bool.false_or, Bool.and_self, Bool.or_self] at q1 q2 q3 q4
    have q1b := q1; simp only [decide_eq_true_eq, decide_eq_false_iff_not] at q1b
    have q2b := q2; simp only [decide_eq_true_eq, decide_eq_false_iff_not] at q2b
    have q4b := q4; simp only [decide_eq_true_eq, decide_eq_false_iff_not] at q4b
    have hbNb := hbN; simp only [decide_eq_true_eq, decide_eq_false_iff_not] at hbNb
    have hbWb := hbW; simp only [decide_eq_true_eq, decide_eq_false_iff_not] at hbWb
    go_wp2_with fail
    clear w0 w1 w2 mct
    obtain ⟨pA, hA, hA1, hA2, hA3⟩ := wornAmount hszb hwrb hctb hk1 hnb hs0
    rw [hne] at hA
    refine (bamount_any 0 V20 (HCL.out V20 _ md HKP20.out (measW_blk HN20.out trivial)) (Nat.le_refl _) (Nat.le_refl _)).mono ?_
    rw [hA]
    rintro e V21 ⟨rfl, c21⟩
    obtain ⟨pa, pb⟩ := pA
    dsimp only at hA1 hA2 hA3 ⊢
    have HA3 := Lib.hid hA3
    clear hA3
    obtain ⟨gA, hgA⟩ : ∃ x, V21.heap.size = x := ⟨_, rfl⟩
    obtain ⟨V22, hV22⟩ : ∃ V, V21.alloc (.cells #[.int .i64 pa, .int .i64 pb] 23) = V := ⟨_, rfl⟩
    have NgA : Blk V22 gA 23 #[.int .i64 pa, .int .i64 pb] := by rw [← hV22]; exact Blk.new _ _ _ hgA.symm
    have a0 := NgA.cell 0
    have a1 := NgA.cell 1
    have HB22 : Hid (Below V20.heap.size V20 V22) := by rw [Hid, ← hV22]; exact bl_alloc c21 _ (Nat.le_refl _)
    clear c21 hA
    have hin : inB nn pa pb = true := by simp [inB]; omega
    go_wp2_with fail
    clear hV22 hgA
    refine (inside_any nn pa pb V22).mono ?_
    rw [hin]
    rintro e V23 ⟨rfl, c23⟩
    have A23 := NgA.bl c23
    have a0 := A23.cell 0
    have a1 := A23.cell 1
    have HB23 : Hid (Below V8.heap.size V8 V23) := bl_call HB20.out (bl_call HB22.out c23 (Nat.le_refl _)) (Nat.le_refl _)
    have HKP23 : Hid (Keeps (fun k => k ≠ gC) V17 V23) := HKP20.out.trans (Keeps.below (bl_call HB22.out c23 (Nat.le_refl _)))
    have HC23 := Lib.hid (HC20.out.bl (bl_call HB22.out c23 (Nat.le_refl _)))
    have q5 : (decide (0 < wr) && (pa != pb)) = false := by
     by_cases h0 : 0 < wr
     ·rw [HA3.out h0]; simp
     simp [h0]
    rw [hbW] at q5
    simp only [Bool.true_and, Bool.false_and] at q5
    have hws : wr * (ct - 1) = wr * (ct - 1) := rfl
    have M23 := HM8.out.bl HB23.out
    have n5 := M23.cell 5
    have O23 : Blk V23 gO 26 #[.int .i64 0, .int .i64 0, .slice (some ⟨gS, 0, none⟩) 1 1] := (HKP23.out.block gO (show gO ≠ gC by omega) (Nat.lt_of_lt_of_le HO14.out.lt HK17.out.size)).trans ((HK17.out.block gO (show gO ≠ gC by omega) HO14.out.lt).trans HO14.out)
    have o0 := O23.cell 0
    have o1 := O23.cell 1
    have o2 := O23.cell 2
    go_wp2_with fail
    clear n5 o0 o1 o2 M23 O23 a0 a1 A23 NgA c23
    have S23 : Moulds (fun _ => True) V23 (some ⟨gS, 0, none⟩) 1 (shopW sn.data.toList sz wr ct).moulds := shopW_blk hss ((HKP23.out.block gS (show gS ≠ gC by omega) (Nat.lt_of_lt_of_le HS14.out.lt HK17.out.size)).trans ((HK17.out.block gS (show gS ≠ gC by omega) HS14.out.lt).trans HS14.out))
    refine (ksizes_any (s := shopW sn.data.toList sz wr ct) (l := []) 0 (ct - 1) V23 S23 (SliceOf.nil _ _ _ _ _) (Nat.le_refl _) rfl rfl).mono ?_
    rw [HSZ.out (ct - 1) (by omega)]
    rintro e V24 ⟨rfl, c24⟩
    dsimp only
    obtain ⟨la, hla⟩ : ∃ q, sz + wr * (ct - 1) = q := ⟨_, rfl⟩
    rw [hla]
    have hlab : sz ≤ la ∧ la ≤ 20200 := by omega
    have HLA : Hid (sz + wr * (ct - 1) = la) := hla
    clear hla S23
    obtain ⟨gL, hgL⟩ : ∃ x, V24.heap.size = x := ⟨_, rfl⟩
    obtain ⟨V25, hV25⟩ : ∃ V, V24.alloc (.cells #[.int .i64 la, .int .i64 la] 23) = V := ⟨_, rfl⟩
    have NgL : Blk V25 gL 23 #[.int .i64 la, .int .i64 la] := by rw [← hV25]; exact Blk.new _ _ _ hgL.symm
    have b25 : Below V23.heap.size V23 V25 := by rw [← hV25]; exact bl_alloc c24 _ (Nat.le_refl _)
    have HB25 : Hid (Below V8.heap.size V8 V25) := bl_call HB23.out b25 (Nat.le_refl _)
    have HKP25 : Hid (Keeps (fun k => k ≠ gC) V17 V25) := HKP23.out.trans (Keeps.below b25)
    have HC25 := Lib.hid (HC23.out.bl b25)
    have HL25 := Lib.hid NgL
    have hgCL : gC < gL := by have := HC23.out.lt; have := c24.size; omega
    clear b25 c24
    go_wp2_with fail
    clear hV25 hgL NgL
    refine worn_loop (V17 := V17) (V25 := V25) hy hszb hwrb (show (1 : Int) ≤ ct ∧ (ct : Int) ≤ 8 by omega) hlab HLA hgCL hC8 HTb HwV HCL HB25 HKP25 ⟨_, HC25.out⟩ HL25 ?hexit
    case hexit =>
     intro v6 v24 v25 v26 v27 v28 v29 v214 v215 v216 v217 v218 v219 v220 v221 v222 v223 v224 v225 v226 v227 v228 v229 v230 v231 v232 v233 v234 v235 v236 v237 v238 v239 v240 v241 v242 v243 v244 v245 v246 v247 v248 v249 v250 v251 v252 v253 v254 v255 v256 v257 WX HBX
     go_wp2_with fail
     refine (awake7_any WX).mono ?_
     rintro e V98 ⟨rfl, c98⟩
     go_wp2_with fail
     refine (awake_any V98 (HTb.out V98 (bl_call (HwV.out WX HBX.out) c98 (Nat.le_refl _)))).mono ?_
     rintro e V99 ⟨rfl, c99⟩
     have b99 : Below w.heap.size w V99 := bl_call (bl_call (HwV.out WX HBX.out) c98 (Nat.le_refl _)) c99 (Nat.le_refl _)
     clear c98 c99
     go_wp2
     go_ret
     exact ⟨by rfl, b99⟩
  obtain rfl : ct = 1 := by omega
  obtain ⟨V17, hV17⟩ : ∃ V : World, V14 = V := ⟨_, rfl⟩
  have kp17 : Keeps (fun k => k ≠ gC) V14 V17 := by rw [← hV17]; exact Keeps.refl _ _
  rw [hV17] at mct
  have C17 : Blk V17 gC 44 #[.slice (some ⟨gF, 0, none⟩) 1 1, .slice none 0 0, .slice none 0 0] := by rw [← hV17]; exact HC14.out
  have b17 : Below V8.heap.size V8 V17 := by rw [← hV17]; exact HB14.out
  have CA17 : Causes (fun k => k ≠ gC) V17 none 0 (if (1 : Int) < 1 then [⟨[119, 111, 114, 110], 1, 1 - 1, [wr]⟩] else []) := SliceOf.nil _ _ _ _ _
  have D17 : Blk V17 gD 23 #[.int .i64 md, .int .i64 md] := (kp17.block gD (show gD ≠ gC by omega) HD14.out.lt).trans HD14.out
  have dm := D17.cell 0
  have u0 := C17.cell 0
  have u1 := C17.cell 1
  have u2 := C17.cell 2
  have fu2 := C17.frozen 2
  have lu2 := C17.lt
  obtain ⟨gN, hgN⟩ : ∃ x, V17.heap.size = x := ⟨_, rfl⟩
  obtain ⟨V18, hV18⟩ : ∃ V, V17.alloc (.cells #[.int .i64 0, .int .i64 md] 49) = V := ⟨_, rfl⟩
  have NgN : Blk V18 gN 49 #[.int .i64 0, .int .i64 md] := by rw [← hV18]; exact Blk.new _ _ _ hgN.symm
  have C18 : Blk V18 gC 44 #[.slice (some ⟨gF, 0, none⟩) 1 1, .slice none 0 0, .slice none 0 0] := by rw [← hV18]; exact C17.alloc _
  have v0 := C18.cell 0
  have v1 := C18.cell 1
  have v2 := C18.cell 2
  have fv2 := C18.frozen 2
  have lv2 := C18.lt
  obtain ⟨V19, hV19⟩ : ∃ V, V18.setCell ⟨gC, 2, none⟩ (.slice (some ⟨gN, 0, none⟩) 1 1) = V := ⟨_, rfl⟩
  have hgNC : gC < gN := by rw [← hgN]; exact C17.lt
  have C19 : Blk V19 gC 44 #[.slice (some ⟨gF, 0, none⟩) 1 1, .slice none 0 0, .slice (some ⟨gN, 0, none⟩) 1 1] := by rw [← hV19]; exact C18.set_ 2 _
  have N19 : Blk V19 gN 49 #[.int .i64 0, .int .i64 md] := by rw [← hV19]; exact NgN.far (by simp; omega) _
  have kp19 : Keeps (fun k => k ≠ gC) V17 V19 := by rw [← hV19, ← hV18]; exact (Keeps.alloc _ _).trans (Keeps.setCell _ _ _ (by simp))
  have HB19 : Hid (Below V8.heap.size V8 V19) := by rw [Hid, ← hV19, ← hV18]; exact bl_set (bl_alloc b17 _ (Nat.le_refl _)) (by dsimp only; omega) _
  have HKP := Lib.hid kp19
  have w0 := C19.cell 0
  have w1 := C19.cell 1
  have w2 := C19.cell 2
  have FE17 : Feats (fun k => k ≠ gC) V17 (some ⟨gF, 0, none⟩) 1 [⟨[115, 105, 122, 101], sz, 0⟩] := featW_blk ((kp17.block gF (show gF ≠ gC by omega) HF14.out.lt).trans HF14.out) (by omega)
  have HCL : Hid (∀ (V : World) (N : Option Addr) (sh : Int), Keeps (fun k => k ≠ gC) V17 V → Meass (fun _ => True) V N 1 [⟨0, sh⟩] → ClaimAt (fun _ => True) V (some ⟨gF, 0, none⟩) 1 none 0 N 1 (claimW sz wr 1 sh)) := fun V N sh hk hN => claimW_at FE17 CA17 hk hN
  have HK17 : Hid (Keeps (fun k => k ≠ gC) V14 V17) := kp17
  go_wp2_with fail
  clear dd0 dd1 mct hV12 hV13 hV14a hV14 hgD hgF hgC NgD NgF NgC Z14 far14 b13 zc0 zc1 zc2 fc0 fc1 fc2 lc c11 dm u0 u1 u2 fu2 lu2 v0 v1 v2 fv2 lv2 w0 w1 w2 hV18 hV19 hgN NgN C17 C18 D17 kp17 kp19 b17 FE17 CA17 hV17
  have hne := HMD.out
  have hs0 : 0 ≤ sz + wr * nn ∧ sz + wr * nn ≤ 200000 := by omega
  obtain ⟨ML, YL, hM, hMi, hYi⟩ := wornMust hszb hwrb (k := 1) (by omega) hnb hs0
  rw [hne] at hM
  refine (bmust_any V19 (HTb.out V19 (HwV.out V19 HB19.out)) (HCL.out V19 _ md HKP.out (measW_blk N19 trivial)) (Nat.le_refl _) (Nat.le_refl _)).mono ?_
  rw [hM]
  rintro e V20 ⟨A1, n1, k1, A2, n2, k2, rfl, hA1, hA2, c20⟩
  dsimp only at hA1 hA2 ⊢
  have C20 := C19.bl c20
  have HN20 : Hid (Blk V20 gN 49 #[.int .i64 0, .int .i64 md]) := N19.bl c20
  have hn1 := hA1.len
  have hn2 := hA2.len
  rw [hn1] at hMi
  rw [hn2] at hYi
  have hl1 := hA1.le
  have hl2 := hA2.le
  have HB20 : Hid (Below V8.heap.size V8 V20) := bl_call HB19.out c20 (Nat.le_refl _)
  have HKP20 : Hid (Keeps (fun k => k ≠ gC) V17 V20) := HKP.out.trans (Keeps.below c20)
  have HC20 := Lib.hid C20
  have HM20 := Lib.hid (HM8.out.bl HB20.out)
  clear hA1 hA2 c20 C19 N19 C20 HKP HB19 hM
  obtain ⟨bN, hbN⟩ : ∃ b, decide (0 < nn) = b := ⟨_, rfl⟩
  obtain ⟨bW, hbW⟩ : ∃ b, decide (0 < wr) = b := ⟨_, rfl⟩
  have q1 : decide (0 < (n1 : Int)) = (bN && bW) := by rw [← hbN, ← hbW, Bool.eq_iff_iff]; simp; omega
  have q2 : decide (0 < (n2 : Int)) = false := by simp; omega
  have q3 : (wr == 0) = !bW := by rw [← hbW, Bool.eq_iff_iff]; simp; omega
  have q4 : decide (wr = 0) = !bW := by rw [← hbW, Bool.eq_iff_iff]; simp; omega
  have mct := HM20.out.cell 5
  cases bN
  case true => exfalso; simp at hbN; omega
  cases bW
  all_goals
   simp only [Bool.not_true, Bool.not_false, Bool.and_true, Bool.and_false, Bool.true_and, Bool.false_and, Bool.or_true, Bool.or_false, Bool.true_or, Bool.false_or, Bool.and_self, Bool.or_self] at q1 q2 q3 q4
   have q1b := q1; simp only [decide_eq_true_eq, decide_eq_false_iff_not] at q1b
   have q2b := q2; simp only [decide_eq_true_eq, decide_eq_false_iff_not] at q2b
   have q4b := q4; simp only [decide_eq_true_eq, decide_eq_false_iff_not] at q4b
   have hbNb := hbN; simp only [decide_eq_true_eq, decide_eq_false_iff_not] at hbNb
   have hbWb := hbW; simp only [decide_eq_true_eq, decide_eq_false_iff_not] at hbWb
   have hws : wr * (1 - 1) = wr * (1 - 1) := rfl
   have M23 := HM8.out.bl HB20.out
   have n5 := M23.cell 5
   have O23 : Blk V20 gO 26 #[.int .i64 0, .int .i64 0, .slice (some ⟨gS, 0, none⟩) 1 1] := (HKP20.out.block gO (show gO ≠ gC by omega) (Nat.lt_of_lt_of_le HO14.out.lt HK17.out.size)).trans ((HK17.out.block gO (show gO ≠ gC by omega) HO14.out.lt).trans HO14.out)
   have o0 := O23.cell 0
   have o1 := O23.cell 1
   have o2 := O23.cell 2
   go_wp2_with fail
   clear n5 o0 o1 o2 M23 O23 mct
   have S23 : Moulds (fun _ => True) V20 (some ⟨gS, 0, none⟩) 1 (shopW sn.data.toList sz wr 1).moulds := shopW_blk hss ((HKP20.out.block gS (show gS ≠ gC by omega) (Nat.lt_of_lt_of_le HS14.out.lt HK17.out.size)).trans ((HK17.out.block gS (show gS ≠ gC by omega) HS14.out.lt).trans HS14.out))
   refine (ksizes_any (s := shopW sn.data.toList sz wr 1) (l := []) 0 0 V20 S23 (SliceOf.nil _ _ _ _ _) (Nat.le_refl _) rfl rfl).mono ?_
   rw [HSZ.out 0 (by omega)]
   rintro e V24 ⟨rfl, c24⟩
   dsimp only
   obtain ⟨la, hla⟩ : ∃ q, sz + wr * 0 = q := ⟨_, rfl⟩
   rw [hla]
   have hlab : sz ≤ la ∧ la ≤ 20200 := by omega
   have HLA : Hid (sz + wr * (1 - 1) = la) := by rw [Hid, ← hla]; simp
   clear hla S23
   obtain ⟨gL, hgL⟩ : ∃ x, V24.heap.size = x := ⟨_, rfl⟩
   obtain ⟨V25, hV25⟩ : ∃ V, V24.alloc (.cells #[.int .i64 la, .int .i64 la] 23) = V := ⟨_, rfl⟩
   have NgL : Blk V25 gL 23 #[.int .i64 la, .int .i64 la] := by rw [← hV25]; exact Blk.new _ _ _ hgL.symm
   have b25 : Below V20.heap.size V20 V25 := by rw [← hV25]; exact bl_alloc c24 _ (Nat.le_refl _)
   have HB25 : Hid (Below V8.heap.size V8 V25) := bl_call HB20.out b25 (Nat.le_refl _)
   have HKP25 : Hid (Keeps (fun k => k ≠ gC) V17 V25) := HKP20.out.trans (Keeps.below b25)
   have HC25 := Lib.hid (HC20.out.bl b25)
   have HL25 := Lib.hid NgL
   have hgCL : gC < gL := by have := HC20.out.lt; have := c24.size; omega
   clear b25 c24
   go_wp2_with fail
   clear hV25 hgL NgL
   refine worn_loop (V17 := V17) (V25 := V25) hy hszb hwrb (show (1 : Int) ≤ 1 ∧ (1 : Int) ≤ 8 by omega) hlab HLA hgCL hC8 HTb HwV HCL HB25 HKP25 ⟨_, HC25.out⟩ HL25 ?hexit
   case hexit =>
    intro v6 v24 v25 v26 v27 v28 v29 v214 v215 v216 v217 v218 v219 v220 v221 v222 v223 v224 v225 v226 v227 v228 v229 v230 v231 v232 v233 v234 v235 v236 v237 v238 v239 v240 v241 v242 v243 v244 v245 v246 v247 v248 v249 v250 v251 v252 v253 v254 v255 v256 v257 WX HBX
    go_wp2_with fail
    refine (awake7_any WX).mono ?_
    rintro e V98 ⟨rfl, c98⟩
    go_wp2_with fail
    refine (awake_any V98 (HTb.out V98 (bl_call (HwV.out WX HBX.out) c98 (Nat.le_refl _)))).mono ?_
    rintro e V99 ⟨rfl, c99⟩
    have b99 : Below w.heap.size w V99 := bl_call (bl_call (HwV.out WX HBX.out) c98 (Nat.le_refl _)) c99 (Nat.le_refl _)
    clear c98 c99
    go_wp2
    go_ret
    exact ⟨by rfl, b99⟩
 have hb7 : (e7 != 0) = true := by simpa using z7
 clear z7 he7
 go_wp2_with fail
 refine (awake7_any V1).mono ?_
 rintro e V98 ⟨rfl, c98⟩
 go_wp2_with fail
 refine (awake_any V98 (HTb.out V98 (bl_call HBw1.out c98 (Nat.le_refl _)))).mono ?_
 rintro e V99 ⟨rfl, c99⟩
 have b99 : Below w.heap.size w V99 := bl_call (bl_call HBw1.out c98 (Nat.le_refl _)) c99 (Nat.le_refl _)
 clear c98 c99
 go_wp2
 go_ret
 exact ⟨by rfl, b99⟩
end Go.Proofs.YtdbfincinjoppabGreatDoor
