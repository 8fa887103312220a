/- Walks, layer 7: the law CastPlans. -/
import Derived.Test.YtpdldmichpmgmaaGreatCKLaw4
import Derived.Test.YtpdldmichpmgmaaGreatCKRefV
import Derived.Test.YtpdldmichpmgmaaGreatCKRefW
set_option linter.unusedVariables false
set_option linter.unusedSimpArgs false
set_option linter.all false
namespace Go.Proofs.YtpdldmichpmgmaaGreat
open Go.RowKit Go.Shelf

set_option maxRecDepth 100000 in
set_option maxHeartbeats 8000000 in
theorem plansLaw_any {A C O : Option Addr} {n ca q cc m od : Nat} {s : Shop} {l : List SeenC} {p : List (Int × Int)} {klo khi : Int} (w : World) (g : Moulds (fun _ => True) w A n s.moulds) (gs : SeenCs (fun _ => True) w C q l) (gp : Pairs (fun _ => True) w O m p) (hca : n ≤ ca) (h1 : s.klo = klo) (h2 : s.khi = khi) :
    Calls Tryz.prog 3 #[.agg #[.int .i64 klo, .int .i64 khi, .slice A n ca], .slice C q cc, .slice O m od] w fun e w' => e = .returned (.bool true) ∧ Below w.heap.size w w' := by
  obtain ⟨W, hW⟩ : ∃ W, w.alloc (.cells #[.int .i64 klo, .int .i64 khi, .slice A n ca] 26) = W := ⟨_, rfl⟩
  have X : Blk W w.heap.size 26 #[.int .i64 klo, .int .i64 khi, .slice A n ca] := by rw [← hW]; exact Blk.new _ _ _ rfl
  have hBW : Below w.heap.size w W := by rw [← hW]; exact bl_alloc (Below.refl _ _) _ (Nat.le_refl _)
  have HG : Hid (∀ V, Below W.heap.size W V → Moulds (fun _ => True) V A n s.moulds) := fun V hb => (g.keep MouldR.good (Keeps.below hBW)).keep MouldR.good (Keeps.below hb)
  have HS : Hid (∀ V, Below W.heap.size W V → SeenCs (fun _ => True) V C q l) := fun V hb => (gs.keep SeenCR.good (Keeps.below hBW)).keep SeenCR.good (Keeps.below hb)
  have HP : Hid (∀ V, Below W.heap.size W V → Pairs (fun _ => True) V O m p) := fun V hb => (gp.keep PairR.good (Keeps.below hBW)).keep PairR.good (Keeps.below hb)
  have kk : Hid (∀ V, Below W.heap.size W V → V.cell? ⟨w.heap.size, 0, none⟩ = some (.int .i64 klo) ∧ V.cell? ⟨w.heap.size, 1, none⟩ = some (.int .i64 khi) ∧ V.cell? ⟨w.heap.size, 2, none⟩ = some (.slice A n ca)) := fun V hb => ⟨(X.bl hb).cell 0, (X.bl hb).cell 1, (X.bl hb).cell 2⟩
  clear X g gs gp
  obtain ⟨uA, hA⟩ : ∃ x, (planR s l p).1 = x := ⟨_, rfl⟩
  obtain ⟨uM, hM⟩ : ∃ x, (planR s l p).2.1 = x := ⟨_, rfl⟩
  obtain ⟨uE, hE⟩ : ∃ x, (planR s l p).2.2 = x := ⟨_, rfl⟩
  obtain ⟨na, hna⟩ : ∃ x, uA.length = x := ⟨_, rfl⟩
  obtain ⟨nu, hnu⟩ : ∃ x, uM.length = x := ⟨_, rfl⟩
  obtain ⟨lX, hlX⟩ : ∃ x, (lacksR s l p).1 = x := ⟨_, rfl⟩
  obtain ⟨lE, hlE⟩ : ∃ x, (lacksR s l p).2 = x := ⟨_, rfl⟩
  obtain ⟨nl, hnl⟩ : ∃ x, lX.length = x := ⟨_, rfl⟩
  obtain ⟨sX, hsX⟩ : ∃ x, (someR s l p).1 = x := ⟨_, rfl⟩
  obtain ⟨sE, hsE⟩ : ∃ x, (someR s l p).2 = x := ⟨_, rfl⟩
  obtain ⟨ns, hns⟩ : ∃ x, sX.length = x := ⟨_, rfl⟩
  have HA := Lib.hid hA
  have HM := Lib.hid hM
  have HE := Lib.hid hE
  have HNA := Lib.hid hna
  have HNU := Lib.hid hnu
  have HLX := Lib.hid hlX
  have HLE := Lib.hid hlE
  have HNL := Lib.hid hnl
  have HSX := Lib.hid hsX
  have HSE := Lib.hid hsE
  have HNS := Lib.hid hns
  clear hA hM hE hna hnu hlX hlE hnl hsX hsE hns
  have heE : (uE != uE) = false := by simp
  have heL : (lE != lE) = false := by simp
  have heS : (sE == sE) = true := by simp
  obtain ⟨x0, x1, x2⟩ := kk.out W (Below.refl _ _)
  go_enter Tryz.func3, Tryz.ntmps3
  go_wp2_with fail
  clear hW x0 x1 x2
  refine (kplan_any (cc := cc) W (HG.out W (Below.refl _ _)) (HS.out W (Below.refl _ _)) (HP.out W (Below.refl _ _)) hca h1 h2).mono ?_
  rintro e V1 ⟨⟨D1, k1, D2, k2, rfl, hD1, hD2⟩, b1⟩
  rw [HA.out, HNA.out] at hD1
  rw [HM.out, HNU.out] at hD2
  rw [HA.out, HM.out, HE.out, HNA.out, HNU.out]
  have HD1 : Hid (∀ V, Below V1.heap.size V1 V → Pls (fun k => W.heap.size ≤ k) V D1 na uA) := fun V hb => hD1.keep PlR.good (Keeps.below hb)
  have HD2 : Hid (∀ V, Below V1.heap.size V1 V → Ints (fun k => W.heap.size ≤ k) V D2 nu uM) := fun V hb => hD2.keep IntR.good (Keeps.below hb)
  have HB1 := Lib.hid b1
  obtain ⟨x0, x1, x2⟩ := kk.out V1 b1
  clear hD1 hD2 b1
  go_wp2_with fail
  clear x0 x1 x2
  refine (rplan7_any V1 (HG.out V1 HB1.out) (HS.out V1 HB1.out) (HP.out V1 HB1.out) h1 h2).mono ?_
  rintro e V2 ⟨⟨D3, k3, D4, k4, rfl, hD3, hD4⟩, c2⟩
  rw [HA.out, HNA.out] at hD3
  rw [HM.out, HNU.out] at hD4
  rw [HA.out, HM.out, HE.out, HNA.out, HNU.out]
  have HB2 : Hid (Below W.heap.size W V2) := bl_call HB1.out c2 (Nat.le_refl _)
  have H12 : Hid (Below V1.heap.size V1 V2) := c2
  have HD3 := Lib.hid hD3
  have HD4 := Lib.hid hD4
  clear hD3 hD4 c2
  go_wp2_with fail
  refine (same7_any V2 (HD1.out V2 H12.out) HD3.out).mono ?_
  rintro e V3 ⟨rfl, q3, hV3⟩
  rw [decide_eq_true (rfl : uA = uA)]
  have H23 : Below V2.heap.size V2 V3 := by rw [hV3]; exact bl_drewN (Below.refl _ _) _
  clear hV3
  go_wp2_with fail
  refine (ints_any V3 (HD2.out V3 (bl_call H12.out H23 (Nat.le_refl _))) (HD4.out.keep IntR.good (Keeps.below H23))).mono ?_
  rintro e V4 ⟨rfl, q4, hV4⟩
  rw [decide_eq_true (rfl : uM = uM)]
  have HB4 : Hid (Below W.heap.size W V4) := by rw [Hid, hV4]; exact bl_drewN (bl_call HB2.out H23 (Nat.le_refl _)) _
  clear hV4 H23
  obtain ⟨x0, x1, x2⟩ := kk.out V4 HB4.out
  go_wp2_with fail
  clear x0 x1 x2
  refine (klacks_any (cc := cc) V4 (HG.out V4 HB4.out) (HS.out V4 HB4.out) (HP.out V4 HB4.out) hca h1 h2).mono ?_
  rintro e V5 ⟨⟨D5, k5, rfl, hD5⟩, c5⟩
  rw [HLX.out, HNL.out] at hD5
  rw [HLX.out, HLE.out, HNL.out]
  have HD5 : Hid (∀ V, Below V5.heap.size V5 V → Ints (fun k => V4.heap.size ≤ k) V D5 nl lX) := fun V hb => hD5.keep IntR.good (Keeps.below hb)
  have HB5 : Hid (Below W.heap.size W V5) := bl_call HB4.out c5 (Nat.le_refl _)
  obtain ⟨x0, x1, x2⟩ := kk.out V5 HB5.out
  clear hD5 c5
  go_wp2_with fail
  clear x0 x1 x2
  refine (rlacks7_any V5 (HG.out V5 HB5.out) (HS.out V5 HB5.out) (HP.out V5 HB5.out) h1 h2).mono ?_
  rintro e V6 ⟨⟨D6, k6, rfl, hD6⟩, c6⟩
  rw [HLX.out, HNL.out] at hD6
  rw [HLX.out, HLE.out, HNL.out]
  have HB6 : Hid (Below W.heap.size W V6) := bl_call HB5.out c6 (Nat.le_refl _)
  have H56 : Hid (Below V5.heap.size V5 V6) := c6
  have HD6 := Lib.hid hD6
  clear hD6 c6
  go_wp2_with fail
  refine (ints_any V6 (HD5.out V6 H56.out) HD6.out).mono ?_
  rintro e V7 ⟨rfl, q7, hV7⟩
  rw [decide_eq_true (rfl : lX = lX)]
  have HB7 : Hid (Below W.heap.size W V7) := by rw [Hid, hV7]; exact bl_drewN HB6.out _
  clear hV7
  obtain ⟨x0, x1, x2⟩ := kk.out V7 HB7.out
  go_wp2_with fail
  clear x0 x1 x2
  refine (ksome_any (cc := cc) V7 (HG.out V7 HB7.out) (HS.out V7 HB7.out) (HP.out V7 HB7.out) hca h1 h2).mono ?_
  rintro e V8 ⟨⟨D7, k7, rfl, hD7⟩, c8⟩
  rw [HSX.out, HNS.out] at hD7
  rw [HSX.out, HSE.out, HNS.out]
  have HD7 : Hid (∀ V, Below V8.heap.size V8 V → Ints (fun k => V7.heap.size ≤ k) V D7 ns sX) := fun V hb => hD7.keep IntR.good (Keeps.below hb)
  have HB8 : Hid (Below W.heap.size W V8) := bl_call HB7.out c8 (Nat.le_refl _)
  obtain ⟨x0, x1, x2⟩ := kk.out V8 HB8.out
  clear hD7 c8
  go_wp2_with fail
  clear x0 x1 x2
  refine (rsome7_any V8 (HG.out V8 HB8.out) (HS.out V8 HB8.out) (HP.out V8 HB8.out) h1 h2).mono ?_
  rintro e V9 ⟨⟨D8, k8, rfl, hD8⟩, c9⟩
  rw [HSX.out, HNS.out] at hD8
  rw [HSX.out, HSE.out, HNS.out]
  have HB9 : Hid (Below W.heap.size W V9) := bl_call HB8.out c9 (Nat.le_refl _)
  have H89 : Hid (Below V8.heap.size V8 V9) := c9
  have HD8 := Lib.hid hD8
  clear hD8 c9
  go_wp2_with fail
  refine (ints_any V9 (HD7.out V9 H89.out) HD8.out).mono ?_
  rintro e V10 ⟨rfl, q10, hV10⟩
  rw [decide_eq_true (rfl : sX = sX)]
  have HB10 : Hid (Below W.heap.size W V10) := by rw [Hid, hV10]; exact bl_drewN HB9.out _
  clear hV10
  go_wp2_with fail
  refine (awake7_any V10).mono ?_
  rintro e V11 ⟨rfl, c11⟩
  have b11 := bl_call hBW (bl_call HB10.out c11 (Nat.le_refl _)) (Nat.le_refl _)
  clear c11
  go_wp2
  go_ret
  exact ⟨by rfl, b11⟩
end Go.Proofs.YtpdldmichpmgmaaGreat
