/- Walks: the law of the examples. -/
import Derived.Test.YtpbimgafafkjgaaCTLaw2
set_option linter.unusedVariables false
set_option linter.unusedSimpArgs false
set_option linter.all false
namespace Go.Proofs.Ytpbimgafafkjgaa
open Go.RowKit

theorem kn_w : width8 (exHall 12) exSeen 0 12 = ((1012, 1012), 0) := by decide +kernel
theorem kn_g1 : gapR (exHall 12) [] 0 [0, 2] = ((1, 7), 0) := by decide +kernel
theorem kn_g2 : gapR (exHall 12) [] 1 [0] = ((8, 10), 0) := by decide +kernel
theorem kn_g3 : gapR (exHall 12) [] 1 [1] = ((15, 17), 0) := by decide +kernel
theorem kn_y1 : whyR (exHall 12) [] 1 [1] = (2, 10, 0) := by decide +kernel
theorem kn_y2 : whyR (exHall 12) [] 0 [0, 2] = (0, 0, 0) := by decide +kernel
theorem kn_a1 : airsR (exHall 12) [] 1 [3] = ((0, 40), 0) := by decide +kernel
theorem kn_a2 : airsR (exHall 12) [] 1 [1] = ((0, 7), 0) := by decide +kernel
theorem kn_m : must8 (exHall 12) [] = ([], 0) := by decide +kernel

/-- what the operations of the region with Seen and Gap promise -/
def knE (B : Nat) (hv : Value) : Nat → Bool → Value → World → Prop
  | 0, _, v, _ => v = hv
  | 1, b, v, W => b = false → IsSeen B v W
  | 2, _, v, _ => v = .tuple #[.agg #[.int .i64 1012, .int .i64 1012], .int .i64 0]
  | 3, _, v, _ => v = .tuple #[.agg #[.int .i64 1012, .int .i64 1012], .int .i64 0]
  | 4, _, v, _ => v = .agg #[.int .i64 1012, .int .i64 1012]
  | 5, _, v, _ => v = .int .i64 0
  | 6, b, v, W => ∃ g, B ≤ g ∧ v = .pointer (some ⟨g, 0, none⟩) ∧ Blk W g 23 (if b then #[.int .i64 1012, .int .i64 1012] else #[.int .i64 0, .int .i64 0])
  | _, _, _, _ => True
theorem knE_stab (B : Nat) (hv : Value) : ∀ i b v w w', Below w.heap.size w w' → knE B hv i b v w → knE B hv i b v w'
  | 0, _, _, _, _, _, h => h
  | 1, _, _, _, _, hb, h => fun e => (h e).bl hb
  | 2, _, _, _, _, _, h => h
  | 3, _, _, _, _, _, h => h
  | 4, _, _, _, _, _, h => h
  | 5, _, _, _, _, _, h => h
  | 6, _, _, _, _, hb, ⟨g, h1, h2, h3⟩ => ⟨g, h1, h2, h3.bl hb⟩
  | _ + 7, _, _, _, _, _, _ => trivial

set_option maxRecDepth 100000 in
set_option maxHeartbeats 2000000 in
theorem known_any (w : World) :
    Calls Try.prog 6 #[] w fun e w' => e = .returned (.bool true) ∧ Below w.heap.size w w' := by
  go_enter Try.func6, Try.ntmps6
  go_wp2_with fail
  refine (hall34_any 12 w).mono ?_
  rintro e W1 ⟨⟨v, rfl, A1, B1, ca1, cb1, rfl, hH1, hca1⟩, b1⟩
  obtain ⟨gh, hgh⟩ : ∃ gh, W1.heap.size = gh := ⟨_, rfl⟩
  obtain ⟨W4, hW2⟩ : ∃ W2, W1.alloc (.cells #[.int .i64 10, .int .i64 12, .int .i64 12, .slice (some ⟨A1, 0, none⟩) 4 ca1, .slice (some ⟨B1, 0, none⟩) 2 cb1] 27) = W2 := ⟨_, rfl⟩
  have X1 : Blk W4 gh 27 #[.int .i64 10, .int .i64 12, .int .i64 12, .slice (some ⟨A1, 0, none⟩) 4 ca1, .slice (some ⟨B1, 0, none⟩) 2 cb1] := by rw [← hW2]; exact Blk.new _ _ _ hgh.symm
  have H4 : Hid (HallAt (fun _ => True) W4 (some ⟨A1, 0, none⟩) 4 (some ⟨B1, 0, none⟩) 2 (exHall 12)) := by rw [Hid, ← hW2]; exact (hH1.keep (Keeps.alloc _ _)).mono fun _ _ => trivial
  have Bq2 : Below w.heap.size w W4 := by rw [← hW2]; exact bl_alloc b1 _ (Nat.le_refl _)
  go_wp2_with fail
  clear hW2 hgh
  have HX2 := Lib.hid X1
  have AS := Lib.hid (knE_stab W4.heap.size (.agg #[.int .i64 10, .int .i64 12, .int .i64 12, .slice (some ⟨A1, 0, none⟩) 4 ca1, .slice (some ⟨B1, 0, none⟩) 2 cb1]))
  refine wp_region_invs (InvE W4.heap.size W4 (knE W4.heap.size (.agg #[.int .i64 10, .int .i64 12, .int .i64 12, .slice (some ⟨A1, 0, none⟩) 4 ca1, .slice (some ⟨B1, 0, none⟩) 2 cb1])) 7) 8 (by kernel_rfl) (by kernel_rfl) (by kernel_rfl) (by rfl) ⟨(Below.refl _ _).drew, fun i h => by cases h⟩ ?step (by rfl) (by rfl) ?fin
  case step =>
    refine StepsI.cons ?_ (StepsI.cons ?_ (StepsI.cons ?_ (StepsI.cons ?_ (StepsI.cons ?_ (StepsI.cons ?_ (StepsI.cons ?_ (StepsI.cons ?_ StepsI.nil)))))))
    all_goals
      refine StepI.of ?_
      intro ls vs W K hI hl hw hU hK
      simp only [fillA, Act.put, List.setIfInBounds_toArray, List.set_cons_zero, List.set_cons_succ, Nat.zero_add, Nat.reduceAdd] at hK ⊢
      simp [waits, Region.binds] at hw
      have hC := hI.1
    · have hR := HX2.out.bl hC
      have k0 := hR.cell 0
      have k1 := hR.cell 1
      have k2 := hR.cell 2
      have k3 := hR.cell 3
      have k4 := hR.cell 4
      go_simp
      exact hK _ _ (hI.step AS.out (Below.refl _ _) hC.size (by decide) rfl)
    · go_simp
      refine (seen35_any W).mono ?_
      rintro e w' ⟨⟨v, rfl, A, c, hv, hS⟩, hb⟩
      have hsz := hC.size
      exact hK _ _ (hI.step AS.out hb hC.size (by decide) (fun _ => ⟨A, c, hv, hS.mono SeenR.good (fun k h => by omega)⟩))
    · have h8 : ls 7 = false := (hU 7 _ rfl (by simp [waits, Region.binds])).1
      have h1 : vs 0 = _ := hI.2 0 (by simp [hw])
      obtain ⟨Aq, cq, h2, hS⟩ := hI.2 1 (by simp [hw]) h8
      simp only [h1, h2] at hK ⊢
      go_simp
      refine (twidth_any (h := exHall 12) (l := exSeen) 0 12 W (H4.out.keep (Keeps.below hC)) (hS.mono SeenR.good (fun _ _ => trivial)) hca1 rfl rfl rfl).mono ?_
      rw [kn_w]
      rintro e w' ⟨rfl, hb⟩
      exact hK _ _ (hI.step AS.out hb hC.size (by decide) rfl)
    · have h1 : vs 2 = _ := hI.2 2 (by simp [hw])
      simp only [h1] at hK ⊢
      go_simp
      exact hK _ _ (hI.step AS.out (Below.refl _ _) hC.size (by decide) rfl)
    · have h1 : vs 3 = _ := hI.2 3 (by simp [hw])
      simp only [h1] at hK ⊢
      go_simp
      exact hK _ _ (hI.step AS.out (Below.refl _ _) hC.size (by decide) rfl)
    · have h1 : vs 3 = _ := hI.2 3 (by simp [hw])
      simp only [h1] at hK ⊢
      go_simp
      exact hK _ _ (hI.step AS.out (Below.refl _ _) hC.size (by decide) rfl)
    · have h8 : ls 7 = false := (hU 7 _ rfl (by simp [waits, Region.binds])).1
      go_simp
      exact hK _ _ (hI.step AS.out (bl_alloc (Below.refl _ _) _ (Nat.le_refl _)) hC.size (by decide) ⟨_, hC.size, rfl, by rw [h8]; exact Blk.new _ _ _ rfl⟩)
    · have h1 : vs 4 = _ := hI.2 4 (by simp [hw])
      obtain ⟨g4, hg4, h4, hB4⟩ := hI.2 6 (by simp [hw])
      rw [hl] at hB4
      have z0 : W.cell? ⟨g4, 0, none⟩ = some (.int .i64 0) := hB4.cell 0
      have z1 : W.cell? ⟨g4, 1, none⟩ = some (.int .i64 0) := hB4.cell 1
      have fz0 := hB4.frozen 0
      have fz1 := hB4.frozen 1
      have hl4 := hB4.lt
      simp only [h1, h4] at hK ⊢
      go_simp
      refine hK undef _ ⟨bl_set (bl_set hC hg4 _) hg4 _, fun i hi => ?_⟩
      have hb8 : updB ls 7 7 = true := by unfold updB; rw [if_pos rfl]
      rw [hb8]
      match i, hi with
      | 0, hi => exact hI.2 0 hi
      | 1, _ => exact fun e => by cases e
      | 2, hi => exact hI.2 2 hi
      | 3, hi => exact hI.2 3 hi
      | 4, hi => exact hI.2 4 hi
      | 5, hi => exact hI.2 5 hi
      | 6, _ => exact ⟨g4, hg4, h4, hB4.set2 _ _⟩
      | _ + 7, _ => trivial
  case fin =>
    intro ls vs W hI hl hU
    have e6 : vs 5 = _ := hI.2 5 (hl 5 (by decide))
    obtain ⟨g2, hg2, h2, hB2⟩ := hI.2 6 (hl 6 (by decide))
    rw [hl 7 (by decide)] at hB2
    have S2 : Blk W g2 23 #[.int .i64 1012, .int .i64 1012] := hB2
    have b4 := hI.1
    simp only [fillA, Act.put, List.setIfInBounds_toArray, List.set_cons_zero, List.set_cons_succ, Nat.zero_add, Nat.reduceAdd, e6, h2]
    obtain ⟨u0, hu0⟩ : ∃ v0, vs 0 = v0 := ⟨_, rfl⟩
    obtain ⟨u1, hu1⟩ : ∃ v0, vs 1 = v0 := ⟨_, rfl⟩
    obtain ⟨u2, hu2⟩ : ∃ v0, vs 2 = v0 := ⟨_, rfl⟩
    obtain ⟨u3, hu3⟩ : ∃ v0, vs 3 = v0 := ⟨_, rfl⟩
    obtain ⟨u4, hu4⟩ : ∃ v0, vs 4 = v0 := ⟨_, rfl⟩
    rw [hu0, hu1, hu2, hu3, hu4]
    clear hI hl hU e6 h2 hB2 AS hu0 hu1 hu2 hu3 hu4
    have h5 := HX2.out.bl b4
    have x0 := h5.cell 0
    have x1 := h5.cell 1
    have x2 := h5.cell 2
    have x3 := h5.cell 3
    have x4 := h5.cell 4
    have HH := Lib.hid (H4.out.keep (Keeps.below b4))
    have BW := Lib.hid (bl_call Bq2 b4 (Nat.le_refl _))
    clear HX2 H4 hH1 b1 X1 b4 Bq2
    have D0 : Below W.heap.size W W := Below.refl _ _
    go_simp
    go_wp2_with fail
    clear x0 x1 x2 x3 x4
    refine (tgap_any (h := exHall 12) (l := []) (tl := [0, 2]) 0 _ ((HH.out.keep (Keeps.below D0)).keep (Keeps.alloc _ _)) (SliceOf.nil _ _ _ _ _) (ints_blk (xs := [0, 2]) (S := fun _ => True) (t := 3) (Blk.new _ _ _ rfl) trivial (by decide)) hca1 rfl rfl rfl).mono ?_
    rw [kn_g1]
    rintro e V1 ⟨rfl, c1⟩
    have s1 : Below W.heap.size W V1 := bl_call (bl_alloc (Below.refl _ _) _ (Nat.le_refl _)) c1 (Nat.le_refl _)
    have d1 : Below W.heap.size W V1 := bl_call D0 s1 (Nat.le_refl _)
    replace S2 := S2.bl s1
    clear c1 s1
    obtain ⟨g4, hg4⟩ : ∃ g, V1.heap.size = g := ⟨_, rfl⟩
    obtain ⟨U1, hU1⟩ : ∃ U, V1.alloc (.cells #[.int .i64 1, .int .i64 7] 23) = U := ⟨_, rfl⟩
    have Sg4 : Blk U1 g4 23 #[.int .i64 1, .int .i64 7] := by rw [← hU1]; exact Blk.new _ _ _ hg4.symm
    have t1 : Below V1.heap.size V1 U1 := by rw [← hU1]; exact bl_alloc (Below.refl _ _) _ (Nat.le_refl _)
    have f1 : Below W.heap.size W U1 := bl_call d1 t1 (Nat.le_refl _)
    replace S2 := S2.bl t1
    obtain ⟨x0, x1, x2, x3, x4⟩ : U1.cell? ⟨gh, 0, none⟩ = some (.int .i64 10) ∧ U1.cell? ⟨gh, 1, none⟩ = some (.int .i64 12) ∧ U1.cell? ⟨gh, 2, none⟩ = some (.int .i64 12) ∧ U1.cell? ⟨gh, 3, none⟩ = some (.slice (some ⟨A1, 0, none⟩) 4 ca1) ∧ U1.cell? ⟨gh, 4, none⟩ = some (.slice (some ⟨B1, 0, none⟩) 2 cb1) := ⟨(h5.bl f1).cell 0, (h5.bl f1).cell 1, (h5.bl f1).cell 2, (h5.bl f1).cell 3, (h5.bl f1).cell 4⟩
    go_wp2_with fail
    clear hU1 hg4 x0 x1 x2 x3 x4 t1
    refine (tgap_any (h := exHall 12) (l := []) (tl := [0]) 1 _ ((HH.out.keep (Keeps.below f1)).keep (Keeps.alloc _ _)) (SliceOf.nil _ _ _ _ _) (ints_blk (xs := [0]) (S := fun _ => True) (t := 3) (Blk.new _ _ _ rfl) trivial (by decide)) hca1 rfl rfl rfl).mono ?_
    rw [kn_g2]
    rintro e V2 ⟨rfl, c2⟩
    have s2 : Below U1.heap.size U1 V2 := bl_call (bl_alloc (Below.refl _ _) _ (Nat.le_refl _)) c2 (Nat.le_refl _)
    have d2 : Below W.heap.size W V2 := bl_call f1 s2 (Nat.le_refl _)
    replace S2 := S2.bl s2
    replace Sg4 := Sg4.bl s2
    clear c2 s2
    obtain ⟨g6, hg6⟩ : ∃ g, V2.heap.size = g := ⟨_, rfl⟩
    obtain ⟨U2, hU2⟩ : ∃ U, V2.alloc (.cells #[.int .i64 8, .int .i64 10] 23) = U := ⟨_, rfl⟩
    have Sg6 : Blk U2 g6 23 #[.int .i64 8, .int .i64 10] := by rw [← hU2]; exact Blk.new _ _ _ hg6.symm
    have t2 : Below V2.heap.size V2 U2 := by rw [← hU2]; exact bl_alloc (Below.refl _ _) _ (Nat.le_refl _)
    have f2 : Below W.heap.size W U2 := bl_call d2 t2 (Nat.le_refl _)
    replace S2 := S2.bl t2
    replace Sg4 := Sg4.bl t2
    obtain ⟨x0, x1, x2, x3, x4⟩ : U2.cell? ⟨gh, 0, none⟩ = some (.int .i64 10) ∧ U2.cell? ⟨gh, 1, none⟩ = some (.int .i64 12) ∧ U2.cell? ⟨gh, 2, none⟩ = some (.int .i64 12) ∧ U2.cell? ⟨gh, 3, none⟩ = some (.slice (some ⟨A1, 0, none⟩) 4 ca1) ∧ U2.cell? ⟨gh, 4, none⟩ = some (.slice (some ⟨B1, 0, none⟩) 2 cb1) := ⟨(h5.bl f2).cell 0, (h5.bl f2).cell 1, (h5.bl f2).cell 2, (h5.bl f2).cell 3, (h5.bl f2).cell 4⟩
    go_wp2_with fail
    clear hU2 hg6 x0 x1 x2 x3 x4 t2
    refine (tgap_any (h := exHall 12) (l := []) (tl := [1]) 1 _ ((HH.out.keep (Keeps.below f2)).keep (Keeps.alloc _ _)) (SliceOf.nil _ _ _ _ _) (ints_blk (xs := [1]) (S := fun _ => True) (t := 3) (Blk.new _ _ _ rfl) trivial (by decide)) hca1 rfl rfl rfl).mono ?_
    rw [kn_g3]
    rintro e V3 ⟨rfl, c3⟩
    have s3 : Below U2.heap.size U2 V3 := bl_call (bl_alloc (Below.refl _ _) _ (Nat.le_refl _)) c3 (Nat.le_refl _)
    have d3 : Below W.heap.size W V3 := bl_call f2 s3 (Nat.le_refl _)
    replace S2 := S2.bl s3
    replace Sg4 := Sg4.bl s3
    replace Sg6 := Sg6.bl s3
    clear c3 s3
    obtain ⟨g8, hg8⟩ : ∃ g, V3.heap.size = g := ⟨_, rfl⟩
    obtain ⟨U3, hU3⟩ : ∃ U, V3.alloc (.cells #[.int .i64 15, .int .i64 17] 23) = U := ⟨_, rfl⟩
    have Sg8 : Blk U3 g8 23 #[.int .i64 15, .int .i64 17] := by rw [← hU3]; exact Blk.new _ _ _ hg8.symm
    have t3 : Below V3.heap.size V3 U3 := by rw [← hU3]; exact bl_alloc (Below.refl _ _) _ (Nat.le_refl _)
    have f3 : Below W.heap.size W U3 := bl_call d3 t3 (Nat.le_refl _)
    replace S2 := S2.bl t3
    replace Sg4 := Sg4.bl t3
    replace Sg6 := Sg6.bl t3
    obtain ⟨x0, x1, x2, x3, x4⟩ : U3.cell? ⟨gh, 0, none⟩ = some (.int .i64 10) ∧ U3.cell? ⟨gh, 1, none⟩ = some (.int .i64 12) ∧ U3.cell? ⟨gh, 2, none⟩ = some (.int .i64 12) ∧ U3.cell? ⟨gh, 3, none⟩ = some (.slice (some ⟨A1, 0, none⟩) 4 ca1) ∧ U3.cell? ⟨gh, 4, none⟩ = some (.slice (some ⟨B1, 0, none⟩) 2 cb1) := ⟨(h5.bl f3).cell 0, (h5.bl f3).cell 1, (h5.bl f3).cell 2, (h5.bl f3).cell 3, (h5.bl f3).cell 4⟩
    go_wp2_with fail
    clear hU3 hg8 x0 x1 x2 x3 x4 t3
    refine (twhy_any (h := exHall 12) (l := []) (tl := [1]) 1 _ ((HH.out.keep (Keeps.below f3)).keep (Keeps.alloc _ _)) (SliceOf.nil _ _ _ _ _) (ints_blk (xs := [1]) (S := fun _ => True) (t := 3) (Blk.new _ _ _ rfl) trivial (by decide)) hca1 rfl rfl rfl).mono ?_
    rw [kn_y1]
    rintro e V4 ⟨rfl, c4⟩
    have s4 : Below U3.heap.size U3 V4 := bl_call (bl_alloc (Below.refl _ _) _ (Nat.le_refl _)) c4 (Nat.le_refl _)
    have d4 : Below W.heap.size W V4 := bl_call f3 s4 (Nat.le_refl _)
    replace S2 := S2.bl s4
    replace Sg4 := Sg4.bl s4
    replace Sg6 := Sg6.bl s4
    replace Sg8 := Sg8.bl s4
    clear c4 s4
    obtain ⟨x0, x1, x2, x3, x4⟩ : V4.cell? ⟨gh, 0, none⟩ = some (.int .i64 10) ∧ V4.cell? ⟨gh, 1, none⟩ = some (.int .i64 12) ∧ V4.cell? ⟨gh, 2, none⟩ = some (.int .i64 12) ∧ V4.cell? ⟨gh, 3, none⟩ = some (.slice (some ⟨A1, 0, none⟩) 4 ca1) ∧ V4.cell? ⟨gh, 4, none⟩ = some (.slice (some ⟨B1, 0, none⟩) 2 cb1) := ⟨(h5.bl d4).cell 0, (h5.bl d4).cell 1, (h5.bl d4).cell 2, (h5.bl d4).cell 3, (h5.bl d4).cell 4⟩
    go_wp2_with fail
    clear x0 x1 x2 x3 x4
    refine (twhy_any (h := exHall 12) (l := []) (tl := [0, 2]) 0 _ ((HH.out.keep (Keeps.below d4)).keep (Keeps.alloc _ _)) (SliceOf.nil _ _ _ _ _) (ints_blk (xs := [0, 2]) (S := fun _ => True) (t := 3) (Blk.new _ _ _ rfl) trivial (by decide)) hca1 rfl rfl rfl).mono ?_
    rw [kn_y2]
    rintro e V5 ⟨rfl, c5⟩
    have s5 : Below V4.heap.size V4 V5 := bl_call (bl_alloc (Below.refl _ _) _ (Nat.le_refl _)) c5 (Nat.le_refl _)
    have d5 : Below W.heap.size W V5 := bl_call d4 s5 (Nat.le_refl _)
    replace S2 := S2.bl s5
    replace Sg4 := Sg4.bl s5
    replace Sg6 := Sg6.bl s5
    replace Sg8 := Sg8.bl s5
    clear c5 s5
    obtain ⟨x0, x1, x2, x3, x4⟩ : V5.cell? ⟨gh, 0, none⟩ = some (.int .i64 10) ∧ V5.cell? ⟨gh, 1, none⟩ = some (.int .i64 12) ∧ V5.cell? ⟨gh, 2, none⟩ = some (.int .i64 12) ∧ V5.cell? ⟨gh, 3, none⟩ = some (.slice (some ⟨A1, 0, none⟩) 4 ca1) ∧ V5.cell? ⟨gh, 4, none⟩ = some (.slice (some ⟨B1, 0, none⟩) 2 cb1) := ⟨(h5.bl d5).cell 0, (h5.bl d5).cell 1, (h5.bl d5).cell 2, (h5.bl d5).cell 3, (h5.bl d5).cell 4⟩
    go_wp2_with fail
    clear x0 x1 x2 x3 x4
    refine (tairs_any (h := exHall 12) (l := []) (tl := [3]) 1 _ ((HH.out.keep (Keeps.below d5)).keep (Keeps.alloc _ _)) (SliceOf.nil _ _ _ _ _) (ints_blk (xs := [3]) (S := fun _ => True) (t := 3) (Blk.new _ _ _ rfl) trivial (by decide)) hca1 rfl rfl rfl).mono ?_
    rw [kn_a1]
    rintro e V6 ⟨rfl, c6⟩
    have s6 : Below V5.heap.size V5 V6 := bl_call (bl_alloc (Below.refl _ _) _ (Nat.le_refl _)) c6 (Nat.le_refl _)
    have d6 : Below W.heap.size W V6 := bl_call d5 s6 (Nat.le_refl _)
    replace S2 := S2.bl s6
    replace Sg4 := Sg4.bl s6
    replace Sg6 := Sg6.bl s6
    replace Sg8 := Sg8.bl s6
    clear c6 s6
    obtain ⟨g16, hg16⟩ : ∃ g, V6.heap.size = g := ⟨_, rfl⟩
    obtain ⟨U6, hU6⟩ : ∃ U, V6.alloc (.cells #[.int .i64 0, .int .i64 40] 23) = U := ⟨_, rfl⟩
    have Sg16 : Blk U6 g16 23 #[.int .i64 0, .int .i64 40] := by rw [← hU6]; exact Blk.new _ _ _ hg16.symm
    have t6 : Below V6.heap.size V6 U6 := by rw [← hU6]; exact bl_alloc (Below.refl _ _) _ (Nat.le_refl _)
    have f6 : Below W.heap.size W U6 := bl_call d6 t6 (Nat.le_refl _)
    replace S2 := S2.bl t6
    replace Sg4 := Sg4.bl t6
    replace Sg6 := Sg6.bl t6
    replace Sg8 := Sg8.bl t6
    obtain ⟨x0, x1, x2, x3, x4⟩ : U6.cell? ⟨gh, 0, none⟩ = some (.int .i64 10) ∧ U6.cell? ⟨gh, 1, none⟩ = some (.int .i64 12) ∧ U6.cell? ⟨gh, 2, none⟩ = some (.int .i64 12) ∧ U6.cell? ⟨gh, 3, none⟩ = some (.slice (some ⟨A1, 0, none⟩) 4 ca1) ∧ U6.cell? ⟨gh, 4, none⟩ = some (.slice (some ⟨B1, 0, none⟩) 2 cb1) := ⟨(h5.bl f6).cell 0, (h5.bl f6).cell 1, (h5.bl f6).cell 2, (h5.bl f6).cell 3, (h5.bl f6).cell 4⟩
    go_wp2_with fail
    clear hU6 hg16 x0 x1 x2 x3 x4 t6
    refine (tairs_any (h := exHall 12) (l := []) (tl := [1]) 1 _ ((HH.out.keep (Keeps.below f6)).keep (Keeps.alloc _ _)) (SliceOf.nil _ _ _ _ _) (ints_blk (xs := [1]) (S := fun _ => True) (t := 3) (Blk.new _ _ _ rfl) trivial (by decide)) hca1 rfl rfl rfl).mono ?_
    rw [kn_a2]
    rintro e V7 ⟨rfl, c7⟩
    have s7 : Below U6.heap.size U6 V7 := bl_call (bl_alloc (Below.refl _ _) _ (Nat.le_refl _)) c7 (Nat.le_refl _)
    have d7 : Below W.heap.size W V7 := bl_call f6 s7 (Nat.le_refl _)
    replace S2 := S2.bl s7
    replace Sg4 := Sg4.bl s7
    replace Sg6 := Sg6.bl s7
    replace Sg8 := Sg8.bl s7
    replace Sg16 := Sg16.bl s7
    clear c7 s7
    obtain ⟨g18, hg18⟩ : ∃ g, V7.heap.size = g := ⟨_, rfl⟩
    obtain ⟨U7, hU7⟩ : ∃ U, V7.alloc (.cells #[.int .i64 0, .int .i64 7] 23) = U := ⟨_, rfl⟩
    have Sg18 : Blk U7 g18 23 #[.int .i64 0, .int .i64 7] := by rw [← hU7]; exact Blk.new _ _ _ hg18.symm
    have t7 : Below V7.heap.size V7 U7 := by rw [← hU7]; exact bl_alloc (Below.refl _ _) _ (Nat.le_refl _)
    have f7 : Below W.heap.size W U7 := bl_call d7 t7 (Nat.le_refl _)
    replace S2 := S2.bl t7
    replace Sg4 := Sg4.bl t7
    replace Sg6 := Sg6.bl t7
    replace Sg8 := Sg8.bl t7
    replace Sg16 := Sg16.bl t7
    obtain ⟨x0, x1, x2, x3, x4⟩ : U7.cell? ⟨gh, 0, none⟩ = some (.int .i64 10) ∧ U7.cell? ⟨gh, 1, none⟩ = some (.int .i64 12) ∧ U7.cell? ⟨gh, 2, none⟩ = some (.int .i64 12) ∧ U7.cell? ⟨gh, 3, none⟩ = some (.slice (some ⟨A1, 0, none⟩) 4 ca1) ∧ U7.cell? ⟨gh, 4, none⟩ = some (.slice (some ⟨B1, 0, none⟩) 2 cb1) := ⟨(h5.bl f7).cell 0, (h5.bl f7).cell 1, (h5.bl f7).cell 2, (h5.bl f7).cell 3, (h5.bl f7).cell 4⟩
    go_wp2_with fail
    clear hU7 hg18 x0 x1 x2 x3 x4 t7
    refine (tmust_any (h := exHall 12) (l := []) U7 (HH.out.keep (Keeps.below f7)) (SliceOf.nil _ _ _ _ _) hca1 rfl rfl rfl).mono ?_
    rw [kn_m]
    rintro e V8 ⟨c6, Am, nm, cm, rfl, hM⟩
    obtain rfl : nm = 0 := hM.len.symm
    have d8 := bl_call f7 c6 (Nat.le_refl _)
    replace S2 := S2.bl c6
    replace Sg4 := Sg4.bl c6
    replace Sg6 := Sg6.bl c6
    replace Sg8 := Sg8.bl c6
    replace Sg16 := Sg16.bl c6
    replace Sg18 := Sg18.bl c6
    have kk : Hid (∀ V, Below V8.heap.size V8 V → V.cell? ⟨g2, 0, none⟩ = some (.int .i64 1012) ∧ V.cell? ⟨g2, 1, none⟩ = some (.int .i64 1012) ∧ V.cell? ⟨g4, 0, none⟩ = some (.int .i64 1) ∧ V.cell? ⟨g4, 1, none⟩ = some (.int .i64 7) ∧ V.cell? ⟨g6, 0, none⟩ = some (.int .i64 8) ∧ V.cell? ⟨g6, 1, none⟩ = some (.int .i64 10) ∧ V.cell? ⟨g8, 0, none⟩ = some (.int .i64 15) ∧ V.cell? ⟨g8, 1, none⟩ = some (.int .i64 17) ∧ V.cell? ⟨g16, 0, none⟩ = some (.int .i64 0) ∧ V.cell? ⟨g16, 1, none⟩ = some (.int .i64 40) ∧ V.cell? ⟨g18, 0, none⟩ = some (.int .i64 0) ∧ V.cell? ⟨g18, 1, none⟩ = some (.int .i64 7)) :=
      fun V hb => ⟨(S2.bl hb).c0, (S2.bl hb).c1, (Sg4.bl hb).c0, (Sg4.bl hb).c1, (Sg6.bl hb).c0, (Sg6.bl hb).c1, (Sg8.bl hb).c0, (Sg8.bl hb).c1, (Sg16.bl hb).c0, (Sg16.bl hb).c1, (Sg18.bl hb).c0, (Sg18.bl hb).c1⟩
    have HB8 : Hid (Below w.heap.size w V8) := bl_call BW.out d8 (Nat.le_refl _)
    clear S2 Sg4 Sg6 Sg8 Sg16 Sg18 hM c6 d8 HH h5
    go_wp2_with fail
    refine wp_frame ?_
    intro a0 hsz hget hdf
    have b3 : a0.tmps[3]? = some (.int .i64 0) := (hget 3).trans (by kernel_rfl)
    have b5 : a0.tmps[5]? = some (.int .i64 0) := (hget 5).trans (by kernel_rfl)
    have b7 : a0.tmps[7]? = some (.int .i64 0) := (hget 7).trans (by kernel_rfl)
    have b9 : a0.tmps[9]? = some (.int .i64 0) := (hget 9).trans (by kernel_rfl)
    have b12 : a0.tmps[12]? = some (.int .i64 0) := (hget 12).trans (by kernel_rfl)
    have b15 : a0.tmps[15]? = some (.int .i64 0) := (hget 15).trans (by kernel_rfl)
    have b17 : a0.tmps[17]? = some (.int .i64 0) := (hget 17).trans (by kernel_rfl)
    have b19 : a0.tmps[19]? = some (.int .i64 0) := (hget 19).trans (by kernel_rfl)
    have b21 : a0.tmps[21]? = some (.int .i64 0) := (hget 21).trans (by kernel_rfl)
    have b10 : a0.tmps[10]? = some (.int .i64 2) := (hget 10).trans (by kernel_rfl)
    have b11 : a0.tmps[11]? = some (.int .i64 10) := (hget 11).trans (by kernel_rfl)
    have b13 : a0.tmps[13]? = some (.int .i64 0) := (hget 13).trans (by kernel_rfl)
    have b14 : a0.tmps[14]? = some (.int .i64 0) := (hget 14).trans (by kernel_rfl)
    have b20 : a0.tmps[20]? = some (.slice Am 0 cm) := (hget 20).trans (by kernel_rfl)
    have b2 : a0.tmps[2]? = some (.pointer (some ⟨g2, 0, none⟩)) := (hget 2).trans (by kernel_rfl)
    have b4 : a0.tmps[4]? = some (.pointer (some ⟨g4, 0, none⟩)) := (hget 4).trans (by kernel_rfl)
    have b6 : a0.tmps[6]? = some (.pointer (some ⟨g6, 0, none⟩)) := (hget 6).trans (by kernel_rfl)
    have b8 : a0.tmps[8]? = some (.pointer (some ⟨g8, 0, none⟩)) := (hget 8).trans (by kernel_rfl)
    have b16 : a0.tmps[16]? = some (.pointer (some ⟨g16, 0, none⟩)) := (hget 16).trans (by kernel_rfl)
    have b18 : a0.tmps[18]? = some (.pointer (some ⟨g18, 0, none⟩)) := (hget 18).trans (by kernel_rfl)
    replace hsz : a0.tmps.size = 166 := hsz.trans (by kernel_rfl)
    replace hdf : a0.defers = [] := hdf
    clear hget
    refine wp_region_list (fun W => Below V8.heap.size V8 W) (fun w w' => Below w.heap.size w w')
      [isV (.int .i64 0), isV (.bool true), isV (.bool true), isV (.int .i64 0), isV (.bool true), isV (.bool true), isV (.bool true), isV (.int .i64 0), isV (.bool true), isV (.bool true), isV (.bool true), isV (.int .i64 0), isV (.bool true), isV (.bool true), isV (.bool true), isV (.int .i64 0), isV (.bool true), isV (.bool true), isV (.bool true), isV (.int .i64 0), isV (.bool true), isV (.bool true), isV (.bool true), isV (.int .i64 0), isV (.bool true), isV (.bool true), isV (.bool true), isV (.int .i64 0), isV (.bool true), isV (.bool true), isV (.bool true), isV (.int .i64 0), isV (.bool true), isV (.bool true), isV (.bool true), isV (.agg #[.int .i64 1012, .int .i64 1012]), isV (.agg #[.int .i64 1012, .int .i64 1012]), isV (.bool true), isV (.bool true), isV (.bool true), isV (.agg #[.int .i64 1, .int .i64 7]), isV (.agg #[.int .i64 1, .int .i64 7]), isV (.bool true), isV (.bool true), isV (.bool true), isV (.agg #[.int .i64 8, .int .i64 10]), isV (.agg #[.int .i64 8, .int .i64 10]), isV (.bool true), isV (.bool true), isV (.bool true), isV (.agg #[.int .i64 15, .int .i64 17]), isV (.agg #[.int .i64 15, .int .i64 17]), isV (.bool true), isV (.bool true), isV (.bool true), isV (.int .i64 2), isV (.bool true), isV (.bool true), isV (.bool true), isV (.int .i64 10), isV (.bool true), isV (.bool true), isV (.bool true), isV (.int .i64 0), isV (.bool true), isV (.bool true), isV (.bool true), isV (.int .i64 0), isV (.bool true), isV (.bool true), isV (.bool true), isV (.agg #[.int .i64 0, .int .i64 40]), isV (.agg #[.int .i64 0, .int .i64 40]), isV (.bool true), isV (.bool true), isV (.bool true), isV (.agg #[.int .i64 0, .int .i64 7]), isV (.agg #[.int .i64 0, .int .i64 7]), isV (.bool true), isV (.bool true), isV (.bool true), isV (.slice Am 0 cm), isV (.int .i64 0), isV (.bool true), isV (.bool true), isV (.bool true), isV (.bool true), isV (.bool true), isV (.bool true)]
      (by kernel_rfl) (by kernel_rfl) (by kernel_rfl) (by simp) (by simp) (Below.refl _ _).drew ?stabA ?stepA ?finA
    case stabA => exact (StabL.is (StabL.is (StabL.is (StabL.is (StabL.is (StabL.is (StabL.is (StabL.is (StabL.is (StabL.is (StabL.is (StabL.is (StabL.is (StabL.is (StabL.is (StabL.is (StabL.is (StabL.is (StabL.is (StabL.is (StabL.is (StabL.is (StabL.is (StabL.is (StabL.is (StabL.is (StabL.is (StabL.is (StabL.is (StabL.is (StabL.is (StabL.is (StabL.is (StabL.is (StabL.is (StabL.is (StabL.is (StabL.is (StabL.is (StabL.is (StabL.is (StabL.is (StabL.is (StabL.is (StabL.is (StabL.is (StabL.is (StabL.is (StabL.is (StabL.is (StabL.is (StabL.is (StabL.is (StabL.is (StabL.is (StabL.is (StabL.is (StabL.is (StabL.is (StabL.is (StabL.is (StabL.is (StabL.is (StabL.is (StabL.is (StabL.is (StabL.is (StabL.is (StabL.is (StabL.is (StabL.is (StabL.is (StabL.is (StabL.is (StabL.is (StabL.is (StabL.is (StabL.is (StabL.is (StabL.is (StabL.is (StabL.is (StabL.is (StabL.is (StabL.is (StabL.is (StabL.is (StabL.is (StabL.is StabL.nil)))))))))))))))))))))))))))))))))))))))))))))))))))))))))))))))))))))))))))))))))))))))))
    case stepA =>
      refine StepsL.isA ?_ (StepsL.isA ?_ (StepsL.isA ?_ (StepsL.isA ?_ (StepsL.isA ?_ (StepsL.isA ?_ (StepsL.isA ?_ (StepsL.isA ?_ (StepsL.isA ?_ (StepsL.isA ?_ (StepsL.isA ?_ (StepsL.isA ?_ (StepsL.isA ?_ (StepsL.isA ?_ (StepsL.isA ?_ (StepsL.isA ?_ (StepsL.isA ?_ (StepsL.isA ?_ (StepsL.isA ?_ (StepsL.isA ?_ (StepsL.isA ?_ (StepsL.isA ?_ (StepsL.isA ?_ (StepsL.isA ?_ (StepsL.isA ?_ (StepsL.isA ?_ (StepsL.isA ?_ (StepsL.isA ?_ (StepsL.isA ?_ (StepsL.isA ?_ (StepsL.isA ?_ (StepsL.isA ?_ (StepsL.isA ?_ (StepsL.isA ?_ (StepsL.isA ?_ (StepsL.isA ?_ (StepsL.isA ?_ (StepsL.isA ?_ (StepsL.isA ?_ (StepsL.isA ?_ (StepsL.isA ?_ (StepsL.isA ?_ (StepsL.isA ?_ (StepsL.isA ?_ (StepsL.isA ?_ (StepsL.isA ?_ (StepsL.isA ?_ (StepsL.isA ?_ (StepsL.isA ?_ (StepsL.isA ?_ (StepsL.isA ?_ (StepsL.isA ?_ (StepsL.isA ?_ (StepsL.isA ?_ (StepsL.isA ?_ (StepsL.isA ?_ (StepsL.isA ?_ (StepsL.isA ?_ (StepsL.isA ?_ (StepsL.isA ?_ (StepsL.isA ?_ (StepsL.isA ?_ (StepsL.isA ?_ (StepsL.isA ?_ (StepsL.isA ?_ (StepsL.isA ?_ (StepsL.isA ?_ (StepsL.isA ?_ (StepsL.isA ?_ (StepsL.isA ?_ (StepsL.isA ?_ (StepsL.isA ?_ (StepsL.isA ?_ (StepsL.isA ?_ (StepsL.isA ?_ (StepsL.isA ?_ (StepsL.isA ?_ (StepsL.isA ?_ (StepsL.isA ?_ (StepsL.isA ?_ (StepsL.isA ?_ (StepsL.isA ?_ (StepsL.isA ?_ (StepsL.isA ?_ (StepsL.isA ?_ (StepsL.isA ?_ (StepsL.isA ?_ (StepsL.isA ?_ (StepsL.isA ?_ StepsL.nil))))))))))))))))))))))))))))))))))))))))))))))))))))))))))))))))))))))))))))))))))))))))
      · -- 0
        intro vs a W K ha hC hD hU hK
        have r3 : a.tmps[3]? = some (.int .i64 0) := by rw [ha, fillA_base0 (by kernel_rfl)]; exact b3
        clear ha hU hD
        rw [if_pos (by rfl)]
        go_simp
        exact hK _ hC (Below.refl _ _)
      · -- 1
        intro vs a W K ha hC hD hU hK
        have r78 : a.tmps[78]? = some (vs 0) := by rw [ha]; exact fillA_get0 (j := 0) (by kernel_rfl) (by rw [hsz]; decide)
        have q0 : vs 0 = .int .i64 0 := hD 0 (by simp [waits, Region.binds])
        rw [q0] at r78
        clear ha hU hD
        rw [if_pos (by rfl)]
        go_simp
        exact hK _ hC (Below.refl _ _)
      · -- 2
        intro vs a W K ha hC hD hU hK
        have r79 : a.tmps[79]? = some (vs 1) := by rw [ha]; exact fillA_get0 (j := 1) (by kernel_rfl) (by rw [hsz]; decide)
        have q1 : vs 1 = .bool true := hD 1 (by simp [waits, Region.binds])
        rw [q1] at r79
        clear ha hU hD
        rw [if_pos (by rfl)]
        go_simp
        exact hK _ hC (Below.refl _ _)
      · -- 3
        intro vs a W K ha hC hD hU hK
        have r80 : a.tmps[80]? = some (vs 2) := by rw [ha]; exact fillA_get0 (j := 2) (by kernel_rfl) (by rw [hsz]; decide)
        have q2 : vs 2 = .bool true := hD 2 (by simp [waits, Region.binds])
        rw [q2] at r80
        have r5 : a.tmps[5]? = some (.int .i64 0) := by rw [ha, fillA_base0 (by kernel_rfl)]; exact b5
        clear ha hU hD
        rw [if_pos (by simp [Region.wanted, yielded, r80])]
        go_simp
        exact hK _ hC (Below.refl _ _)
      · -- 4
        intro vs a W K ha hC hD hU hK
        have r80 : a.tmps[80]? = some (vs 2) := by rw [ha]; exact fillA_get0 (j := 2) (by kernel_rfl) (by rw [hsz]; decide)
        have q2 : vs 2 = .bool true := hD 2 (by simp [waits, Region.binds])
        rw [q2] at r80
        have r81 : a.tmps[81]? = some (vs 3) := by rw [ha]; exact fillA_get0 (j := 3) (by kernel_rfl) (by rw [hsz]; decide)
        have q3 : vs 3 = .int .i64 0 := hD 3 (by simp [waits, Region.binds])
        rw [q3] at r81
        clear ha hU hD
        rw [if_pos (by simp [Region.wanted, yielded, r80])]
        go_simp
        exact hK _ hC (Below.refl _ _)
      · -- 5
        intro vs a W K ha hC hD hU hK
        have r80 : a.tmps[80]? = some (vs 2) := by rw [ha]; exact fillA_get0 (j := 2) (by kernel_rfl) (by rw [hsz]; decide)
        have q2 : vs 2 = .bool true := hD 2 (by simp [waits, Region.binds])
        rw [q2] at r80
        have r82 : a.tmps[82]? = some (vs 4) := by rw [ha]; exact fillA_get0 (j := 4) (by kernel_rfl) (by rw [hsz]; decide)
        have q4 : vs 4 = .bool true := hD 4 (by simp [waits, Region.binds])
        rw [q4] at r82
        clear ha hU hD
        rw [if_pos (by rfl)]
        go_simp
        exact hK _ hC (Below.refl _ _)
      · -- 6
        intro vs a W K ha hC hD hU hK
        have r83 : a.tmps[83]? = some (vs 5) := by rw [ha]; exact fillA_get0 (j := 5) (by kernel_rfl) (by rw [hsz]; decide)
        have q5 : vs 5 = .bool true := hD 5 (by simp [waits, Region.binds])
        rw [q5] at r83
        clear ha hU hD
        rw [if_pos (by rfl)]
        go_simp
        exact hK _ hC (Below.refl _ _)
      · -- 7
        intro vs a W K ha hC hD hU hK
        have r84 : a.tmps[84]? = some (vs 6) := by rw [ha]; exact fillA_get0 (j := 6) (by kernel_rfl) (by rw [hsz]; decide)
        have q6 : vs 6 = .bool true := hD 6 (by simp [waits, Region.binds])
        rw [q6] at r84
        have r7 : a.tmps[7]? = some (.int .i64 0) := by rw [ha, fillA_base0 (by kernel_rfl)]; exact b7
        clear ha hU hD
        rw [if_pos (by simp [Region.wanted, yielded, r84])]
        go_simp
        exact hK _ hC (Below.refl _ _)
      · -- 8
        intro vs a W K ha hC hD hU hK
        have r84 : a.tmps[84]? = some (vs 6) := by rw [ha]; exact fillA_get0 (j := 6) (by kernel_rfl) (by rw [hsz]; decide)
        have q6 : vs 6 = .bool true := hD 6 (by simp [waits, Region.binds])
        rw [q6] at r84
        have r85 : a.tmps[85]? = some (vs 7) := by rw [ha]; exact fillA_get0 (j := 7) (by kernel_rfl) (by rw [hsz]; decide)
        have q7 : vs 7 = .int .i64 0 := hD 7 (by simp [waits, Region.binds])
        rw [q7] at r85
        clear ha hU hD
        rw [if_pos (by simp [Region.wanted, yielded, r84])]
        go_simp
        exact hK _ hC (Below.refl _ _)
      · -- 9
        intro vs a W K ha hC hD hU hK
        have r84 : a.tmps[84]? = some (vs 6) := by rw [ha]; exact fillA_get0 (j := 6) (by kernel_rfl) (by rw [hsz]; decide)
        have q6 : vs 6 = .bool true := hD 6 (by simp [waits, Region.binds])
        rw [q6] at r84
        have r86 : a.tmps[86]? = some (vs 8) := by rw [ha]; exact fillA_get0 (j := 8) (by kernel_rfl) (by rw [hsz]; decide)
        have q8 : vs 8 = .bool true := hD 8 (by simp [waits, Region.binds])
        rw [q8] at r86
        clear ha hU hD
        rw [if_pos (by rfl)]
        go_simp
        exact hK _ hC (Below.refl _ _)
      · -- 10
        intro vs a W K ha hC hD hU hK
        have r87 : a.tmps[87]? = some (vs 9) := by rw [ha]; exact fillA_get0 (j := 9) (by kernel_rfl) (by rw [hsz]; decide)
        have q9 : vs 9 = .bool true := hD 9 (by simp [waits, Region.binds])
        rw [q9] at r87
        clear ha hU hD
        rw [if_pos (by rfl)]
        go_simp
        exact hK _ hC (Below.refl _ _)
      · -- 11
        intro vs a W K ha hC hD hU hK
        have r88 : a.tmps[88]? = some (vs 10) := by rw [ha]; exact fillA_get0 (j := 10) (by kernel_rfl) (by rw [hsz]; decide)
        have q10 : vs 10 = .bool true := hD 10 (by simp [waits, Region.binds])
        rw [q10] at r88
        have r9 : a.tmps[9]? = some (.int .i64 0) := by rw [ha, fillA_base0 (by kernel_rfl)]; exact b9
        clear ha hU hD
        rw [if_pos (by simp [Region.wanted, yielded, r88])]
        go_simp
        exact hK _ hC (Below.refl _ _)
      · -- 12
        intro vs a W K ha hC hD hU hK
        have r88 : a.tmps[88]? = some (vs 10) := by rw [ha]; exact fillA_get0 (j := 10) (by kernel_rfl) (by rw [hsz]; decide)
        have q10 : vs 10 = .bool true := hD 10 (by simp [waits, Region.binds])
        rw [q10] at r88
        have r89 : a.tmps[89]? = some (vs 11) := by rw [ha]; exact fillA_get0 (j := 11) (by kernel_rfl) (by rw [hsz]; decide)
        have q11 : vs 11 = .int .i64 0 := hD 11 (by simp [waits, Region.binds])
        rw [q11] at r89
        clear ha hU hD
        rw [if_pos (by simp [Region.wanted, yielded, r88])]
        go_simp
        exact hK _ hC (Below.refl _ _)
      · -- 13
        intro vs a W K ha hC hD hU hK
        have r88 : a.tmps[88]? = some (vs 10) := by rw [ha]; exact fillA_get0 (j := 10) (by kernel_rfl) (by rw [hsz]; decide)
        have q10 : vs 10 = .bool true := hD 10 (by simp [waits, Region.binds])
        rw [q10] at r88
        have r90 : a.tmps[90]? = some (vs 12) := by rw [ha]; exact fillA_get0 (j := 12) (by kernel_rfl) (by rw [hsz]; decide)
        have q12 : vs 12 = .bool true := hD 12 (by simp [waits, Region.binds])
        rw [q12] at r90
        clear ha hU hD
        rw [if_pos (by rfl)]
        go_simp
        exact hK _ hC (Below.refl _ _)
      · -- 14
        intro vs a W K ha hC hD hU hK
        have r91 : a.tmps[91]? = some (vs 13) := by rw [ha]; exact fillA_get0 (j := 13) (by kernel_rfl) (by rw [hsz]; decide)
        have q13 : vs 13 = .bool true := hD 13 (by simp [waits, Region.binds])
        rw [q13] at r91
        clear ha hU hD
        rw [if_pos (by rfl)]
        go_simp
        exact hK _ hC (Below.refl _ _)
      · -- 15
        intro vs a W K ha hC hD hU hK
        have r92 : a.tmps[92]? = some (vs 14) := by rw [ha]; exact fillA_get0 (j := 14) (by kernel_rfl) (by rw [hsz]; decide)
        have q14 : vs 14 = .bool true := hD 14 (by simp [waits, Region.binds])
        rw [q14] at r92
        have r12 : a.tmps[12]? = some (.int .i64 0) := by rw [ha, fillA_base0 (by kernel_rfl)]; exact b12
        clear ha hU hD
        rw [if_pos (by simp [Region.wanted, yielded, r92])]
        go_simp
        exact hK _ hC (Below.refl _ _)
      · -- 16
        intro vs a W K ha hC hD hU hK
        have r92 : a.tmps[92]? = some (vs 14) := by rw [ha]; exact fillA_get0 (j := 14) (by kernel_rfl) (by rw [hsz]; decide)
        have q14 : vs 14 = .bool true := hD 14 (by simp [waits, Region.binds])
        rw [q14] at r92
        have r93 : a.tmps[93]? = some (vs 15) := by rw [ha]; exact fillA_get0 (j := 15) (by kernel_rfl) (by rw [hsz]; decide)
        have q15 : vs 15 = .int .i64 0 := hD 15 (by simp [waits, Region.binds])
        rw [q15] at r93
        clear ha hU hD
        rw [if_pos (by simp [Region.wanted, yielded, r92])]
        go_simp
        exact hK _ hC (Below.refl _ _)
      · -- 17
        intro vs a W K ha hC hD hU hK
        have r92 : a.tmps[92]? = some (vs 14) := by rw [ha]; exact fillA_get0 (j := 14) (by kernel_rfl) (by rw [hsz]; decide)
        have q14 : vs 14 = .bool true := hD 14 (by simp [waits, Region.binds])
        rw [q14] at r92
        have r94 : a.tmps[94]? = some (vs 16) := by rw [ha]; exact fillA_get0 (j := 16) (by kernel_rfl) (by rw [hsz]; decide)
        have q16 : vs 16 = .bool true := hD 16 (by simp [waits, Region.binds])
        rw [q16] at r94
        clear ha hU hD
        rw [if_pos (by rfl)]
        go_simp
        exact hK _ hC (Below.refl _ _)
      · -- 18
        intro vs a W K ha hC hD hU hK
        have r95 : a.tmps[95]? = some (vs 17) := by rw [ha]; exact fillA_get0 (j := 17) (by kernel_rfl) (by rw [hsz]; decide)
        have q17 : vs 17 = .bool true := hD 17 (by simp [waits, Region.binds])
        rw [q17] at r95
        clear ha hU hD
        rw [if_pos (by rfl)]
        go_simp
        exact hK _ hC (Below.refl _ _)
      · -- 19
        intro vs a W K ha hC hD hU hK
        have r96 : a.tmps[96]? = some (vs 18) := by rw [ha]; exact fillA_get0 (j := 18) (by kernel_rfl) (by rw [hsz]; decide)
        have q18 : vs 18 = .bool true := hD 18 (by simp [waits, Region.binds])
        rw [q18] at r96
        have r15 : a.tmps[15]? = some (.int .i64 0) := by rw [ha, fillA_base0 (by kernel_rfl)]; exact b15
        clear ha hU hD
        rw [if_pos (by simp [Region.wanted, yielded, r96])]
        go_simp
        exact hK _ hC (Below.refl _ _)
      · -- 20
        intro vs a W K ha hC hD hU hK
        have r96 : a.tmps[96]? = some (vs 18) := by rw [ha]; exact fillA_get0 (j := 18) (by kernel_rfl) (by rw [hsz]; decide)
        have q18 : vs 18 = .bool true := hD 18 (by simp [waits, Region.binds])
        rw [q18] at r96
        have r97 : a.tmps[97]? = some (vs 19) := by rw [ha]; exact fillA_get0 (j := 19) (by kernel_rfl) (by rw [hsz]; decide)
        have q19 : vs 19 = .int .i64 0 := hD 19 (by simp [waits, Region.binds])
        rw [q19] at r97
        clear ha hU hD
        rw [if_pos (by simp [Region.wanted, yielded, r96])]
        go_simp
        exact hK _ hC (Below.refl _ _)
      · -- 21
        intro vs a W K ha hC hD hU hK
        have r96 : a.tmps[96]? = some (vs 18) := by rw [ha]; exact fillA_get0 (j := 18) (by kernel_rfl) (by rw [hsz]; decide)
        have q18 : vs 18 = .bool true := hD 18 (by simp [waits, Region.binds])
        rw [q18] at r96
        have r98 : a.tmps[98]? = some (vs 20) := by rw [ha]; exact fillA_get0 (j := 20) (by kernel_rfl) (by rw [hsz]; decide)
        have q20 : vs 20 = .bool true := hD 20 (by simp [waits, Region.binds])
        rw [q20] at r98
        clear ha hU hD
        rw [if_pos (by rfl)]
        go_simp
        exact hK _ hC (Below.refl _ _)
      · -- 22
        intro vs a W K ha hC hD hU hK
        have r99 : a.tmps[99]? = some (vs 21) := by rw [ha]; exact fillA_get0 (j := 21) (by kernel_rfl) (by rw [hsz]; decide)
        have q21 : vs 21 = .bool true := hD 21 (by simp [waits, Region.binds])
        rw [q21] at r99
        clear ha hU hD
        rw [if_pos (by rfl)]
        go_simp
        exact hK _ hC (Below.refl _ _)
      · -- 23
        intro vs a W K ha hC hD hU hK
        have r100 : a.tmps[100]? = some (vs 22) := by rw [ha]; exact fillA_get0 (j := 22) (by kernel_rfl) (by rw [hsz]; decide)
        have q22 : vs 22 = .bool true := hD 22 (by simp [waits, Region.binds])
        rw [q22] at r100
        have r17 : a.tmps[17]? = some (.int .i64 0) := by rw [ha, fillA_base0 (by kernel_rfl)]; exact b17
        clear ha hU hD
        rw [if_pos (by simp [Region.wanted, yielded, r100])]
        go_simp
        exact hK _ hC (Below.refl _ _)
      · -- 24
        intro vs a W K ha hC hD hU hK
        have r100 : a.tmps[100]? = some (vs 22) := by rw [ha]; exact fillA_get0 (j := 22) (by kernel_rfl) (by rw [hsz]; decide)
        have q22 : vs 22 = .bool true := hD 22 (by simp [waits, Region.binds])
        rw [q22] at r100
        have r101 : a.tmps[101]? = some (vs 23) := by rw [ha]; exact fillA_get0 (j := 23) (by kernel_rfl) (by rw [hsz]; decide)
        have q23 : vs 23 = .int .i64 0 := hD 23 (by simp [waits, Region.binds])
        rw [q23] at r101
        clear ha hU hD
        rw [if_pos (by simp [Region.wanted, yielded, r100])]
        go_simp
        exact hK _ hC (Below.refl _ _)
      · -- 25
        intro vs a W K ha hC hD hU hK
        have r100 : a.tmps[100]? = some (vs 22) := by rw [ha]; exact fillA_get0 (j := 22) (by kernel_rfl) (by rw [hsz]; decide)
        have q22 : vs 22 = .bool true := hD 22 (by simp [waits, Region.binds])
        rw [q22] at r100
        have r102 : a.tmps[102]? = some (vs 24) := by rw [ha]; exact fillA_get0 (j := 24) (by kernel_rfl) (by rw [hsz]; decide)
        have q24 : vs 24 = .bool true := hD 24 (by simp [waits, Region.binds])
        rw [q24] at r102
        clear ha hU hD
        rw [if_pos (by rfl)]
        go_simp
        exact hK _ hC (Below.refl _ _)
      · -- 26
        intro vs a W K ha hC hD hU hK
        have r103 : a.tmps[103]? = some (vs 25) := by rw [ha]; exact fillA_get0 (j := 25) (by kernel_rfl) (by rw [hsz]; decide)
        have q25 : vs 25 = .bool true := hD 25 (by simp [waits, Region.binds])
        rw [q25] at r103
        clear ha hU hD
        rw [if_pos (by rfl)]
        go_simp
        exact hK _ hC (Below.refl _ _)
      · -- 27
        intro vs a W K ha hC hD hU hK
        have r104 : a.tmps[104]? = some (vs 26) := by rw [ha]; exact fillA_get0 (j := 26) (by kernel_rfl) (by rw [hsz]; decide)
        have q26 : vs 26 = .bool true := hD 26 (by simp [waits, Region.binds])
        rw [q26] at r104
        have r19 : a.tmps[19]? = some (.int .i64 0) := by rw [ha, fillA_base0 (by kernel_rfl)]; exact b19
        clear ha hU hD
        rw [if_pos (by simp [Region.wanted, yielded, r104])]
        go_simp
        exact hK _ hC (Below.refl _ _)
      · -- 28
        intro vs a W K ha hC hD hU hK
        have r104 : a.tmps[104]? = some (vs 26) := by rw [ha]; exact fillA_get0 (j := 26) (by kernel_rfl) (by rw [hsz]; decide)
        have q26 : vs 26 = .bool true := hD 26 (by simp [waits, Region.binds])
        rw [q26] at r104
        have r105 : a.tmps[105]? = some (vs 27) := by rw [ha]; exact fillA_get0 (j := 27) (by kernel_rfl) (by rw [hsz]; decide)
        have q27 : vs 27 = .int .i64 0 := hD 27 (by simp [waits, Region.binds])
        rw [q27] at r105
        clear ha hU hD
        rw [if_pos (by simp [Region.wanted, yielded, r104])]
        go_simp
        exact hK _ hC (Below.refl _ _)
      · -- 29
        intro vs a W K ha hC hD hU hK
        have r104 : a.tmps[104]? = some (vs 26) := by rw [ha]; exact fillA_get0 (j := 26) (by kernel_rfl) (by rw [hsz]; decide)
        have q26 : vs 26 = .bool true := hD 26 (by simp [waits, Region.binds])
        rw [q26] at r104
        have r106 : a.tmps[106]? = some (vs 28) := by rw [ha]; exact fillA_get0 (j := 28) (by kernel_rfl) (by rw [hsz]; decide)
        have q28 : vs 28 = .bool true := hD 28 (by simp [waits, Region.binds])
        rw [q28] at r106
        clear ha hU hD
        rw [if_pos (by rfl)]
        go_simp
        exact hK _ hC (Below.refl _ _)
      · -- 30
        intro vs a W K ha hC hD hU hK
        have r107 : a.tmps[107]? = some (vs 29) := by rw [ha]; exact fillA_get0 (j := 29) (by kernel_rfl) (by rw [hsz]; decide)
        have q29 : vs 29 = .bool true := hD 29 (by simp [waits, Region.binds])
        rw [q29] at r107
        clear ha hU hD
        rw [if_pos (by rfl)]
        go_simp
        exact hK _ hC (Below.refl _ _)
      · -- 31
        intro vs a W K ha hC hD hU hK
        have r108 : a.tmps[108]? = some (vs 30) := by rw [ha]; exact fillA_get0 (j := 30) (by kernel_rfl) (by rw [hsz]; decide)
        have q30 : vs 30 = .bool true := hD 30 (by simp [waits, Region.binds])
        rw [q30] at r108
        have r21 : a.tmps[21]? = some (.int .i64 0) := by rw [ha, fillA_base0 (by kernel_rfl)]; exact b21
        clear ha hU hD
        rw [if_pos (by simp [Region.wanted, yielded, r108])]
        go_simp
        exact hK _ hC (Below.refl _ _)
      · -- 32
        intro vs a W K ha hC hD hU hK
        have r108 : a.tmps[108]? = some (vs 30) := by rw [ha]; exact fillA_get0 (j := 30) (by kernel_rfl) (by rw [hsz]; decide)
        have q30 : vs 30 = .bool true := hD 30 (by simp [waits, Region.binds])
        rw [q30] at r108
        have r109 : a.tmps[109]? = some (vs 31) := by rw [ha]; exact fillA_get0 (j := 31) (by kernel_rfl) (by rw [hsz]; decide)
        have q31 : vs 31 = .int .i64 0 := hD 31 (by simp [waits, Region.binds])
        rw [q31] at r109
        clear ha hU hD
        rw [if_pos (by simp [Region.wanted, yielded, r108])]
        go_simp
        exact hK _ hC (Below.refl _ _)
      · -- 33
        intro vs a W K ha hC hD hU hK
        have r108 : a.tmps[108]? = some (vs 30) := by rw [ha]; exact fillA_get0 (j := 30) (by kernel_rfl) (by rw [hsz]; decide)
        have q30 : vs 30 = .bool true := hD 30 (by simp [waits, Region.binds])
        rw [q30] at r108
        have r110 : a.tmps[110]? = some (vs 32) := by rw [ha]; exact fillA_get0 (j := 32) (by kernel_rfl) (by rw [hsz]; decide)
        have q32 : vs 32 = .bool true := hD 32 (by simp [waits, Region.binds])
        rw [q32] at r110
        clear ha hU hD
        rw [if_pos (by rfl)]
        go_simp
        exact hK _ hC (Below.refl _ _)
      · -- 34
        intro vs a W K ha hC hD hU hK
        have r111 : a.tmps[111]? = some (vs 33) := by rw [ha]; exact fillA_get0 (j := 33) (by kernel_rfl) (by rw [hsz]; decide)
        have q33 : vs 33 = .bool true := hD 33 (by simp [waits, Region.binds])
        rw [q33] at r111
        clear ha hU hD
        rw [if_pos (by rfl)]
        go_simp
        exact hK _ hC (Below.refl _ _)
      · -- 35
        intro vs a W K ha hC hD hU hK
        have r112 : a.tmps[112]? = some (vs 34) := by rw [ha]; exact fillA_get0 (j := 34) (by kernel_rfl) (by rw [hsz]; decide)
        have q34 : vs 34 = .bool true := hD 34 (by simp [waits, Region.binds])
        rw [q34] at r112
        have r2 : a.tmps[2]? = some (.pointer (some ⟨g2, 0, none⟩)) := by rw [ha, fillA_base0 (by kernel_rfl)]; exact b2
        clear ha hU hD
        rw [if_pos (by simp [Region.wanted, yielded, r112])]
        obtain ⟨k0, k1, k2, k3, k4, k5, k6, k7, k8, k9, k10, k11⟩ := kk.out W hC
        go_simp
        exact hK _ hC (Below.refl _ _)
      · -- 36
        intro vs a W K ha hC hD hU hK
        have r112 : a.tmps[112]? = some (vs 34) := by rw [ha]; exact fillA_get0 (j := 34) (by kernel_rfl) (by rw [hsz]; decide)
        have q34 : vs 34 = .bool true := hD 34 (by simp [waits, Region.binds])
        rw [q34] at r112
        clear ha hU hD
        rw [if_pos (by simp [Region.wanted, yielded, r112])]
        go_simp
        refine (span8_any 1012 1012 W).mono ?_
        rintro e w' ⟨rfl, hb⟩
        exact hK _ (bl_call hC hb (Nat.le_refl _)) hb
      · -- 37
        intro vs a W K ha hC hD hU hK
        have r112 : a.tmps[112]? = some (vs 34) := by rw [ha]; exact fillA_get0 (j := 34) (by kernel_rfl) (by rw [hsz]; decide)
        have q34 : vs 34 = .bool true := hD 34 (by simp [waits, Region.binds])
        rw [q34] at r112
        have r113 : a.tmps[113]? = some (vs 35) := by rw [ha]; exact fillA_get0 (j := 35) (by kernel_rfl) (by rw [hsz]; decide)
        have q35 : vs 35 = .agg #[.int .i64 1012, .int .i64 1012] := hD 35 (by simp [waits, Region.binds])
        rw [q35] at r113
        have r114 : a.tmps[114]? = some (vs 36) := by rw [ha]; exact fillA_get0 (j := 36) (by kernel_rfl) (by rw [hsz]; decide)
        have q36 : vs 36 = .agg #[.int .i64 1012, .int .i64 1012] := hD 36 (by simp [waits, Region.binds])
        rw [q36] at r114
        clear ha hU hD
        rw [if_pos (by simp [Region.wanted, yielded, r112])]
        go_simp
        exact hK _ hC (Below.refl _ _)
      · -- 38
        intro vs a W K ha hC hD hU hK
        have r112 : a.tmps[112]? = some (vs 34) := by rw [ha]; exact fillA_get0 (j := 34) (by kernel_rfl) (by rw [hsz]; decide)
        have q34 : vs 34 = .bool true := hD 34 (by simp [waits, Region.binds])
        rw [q34] at r112
        have r115 : a.tmps[115]? = some (vs 37) := by rw [ha]; exact fillA_get0 (j := 37) (by kernel_rfl) (by rw [hsz]; decide)
        have q37 : vs 37 = .bool true := hD 37 (by simp [waits, Region.binds])
        rw [q37] at r115
        clear ha hU hD
        rw [if_pos (by rfl)]
        go_simp
        exact hK _ hC (Below.refl _ _)
      · -- 39
        intro vs a W K ha hC hD hU hK
        have r116 : a.tmps[116]? = some (vs 38) := by rw [ha]; exact fillA_get0 (j := 38) (by kernel_rfl) (by rw [hsz]; decide)
        have q38 : vs 38 = .bool true := hD 38 (by simp [waits, Region.binds])
        rw [q38] at r116
        clear ha hU hD
        rw [if_pos (by rfl)]
        go_simp
        exact hK _ hC (Below.refl _ _)
      · -- 40
        intro vs a W K ha hC hD hU hK
        have r117 : a.tmps[117]? = some (vs 39) := by rw [ha]; exact fillA_get0 (j := 39) (by kernel_rfl) (by rw [hsz]; decide)
        have q39 : vs 39 = .bool true := hD 39 (by simp [waits, Region.binds])
        rw [q39] at r117
        have r4 : a.tmps[4]? = some (.pointer (some ⟨g4, 0, none⟩)) := by rw [ha, fillA_base0 (by kernel_rfl)]; exact b4
        clear ha hU hD
        rw [if_pos (by simp [Region.wanted, yielded, r117])]
        obtain ⟨k0, k1, k2, k3, k4, k5, k6, k7, k8, k9, k10, k11⟩ := kk.out W hC
        go_simp
        exact hK _ hC (Below.refl _ _)
      · -- 41
        intro vs a W K ha hC hD hU hK
        have r117 : a.tmps[117]? = some (vs 39) := by rw [ha]; exact fillA_get0 (j := 39) (by kernel_rfl) (by rw [hsz]; decide)
        have q39 : vs 39 = .bool true := hD 39 (by simp [waits, Region.binds])
        rw [q39] at r117
        clear ha hU hD
        rw [if_pos (by simp [Region.wanted, yielded, r117])]
        go_simp
        refine (span8_any 1 7 W).mono ?_
        rintro e w' ⟨rfl, hb⟩
        exact hK _ (bl_call hC hb (Nat.le_refl _)) hb
      · -- 42
        intro vs a W K ha hC hD hU hK
        have r117 : a.tmps[117]? = some (vs 39) := by rw [ha]; exact fillA_get0 (j := 39) (by kernel_rfl) (by rw [hsz]; decide)
        have q39 : vs 39 = .bool true := hD 39 (by simp [waits, Region.binds])
        rw [q39] at r117
        have r118 : a.tmps[118]? = some (vs 40) := by rw [ha]; exact fillA_get0 (j := 40) (by kernel_rfl) (by rw [hsz]; decide)
        have q40 : vs 40 = .agg #[.int .i64 1, .int .i64 7] := hD 40 (by simp [waits, Region.binds])
        rw [q40] at r118
        have r119 : a.tmps[119]? = some (vs 41) := by rw [ha]; exact fillA_get0 (j := 41) (by kernel_rfl) (by rw [hsz]; decide)
        have q41 : vs 41 = .agg #[.int .i64 1, .int .i64 7] := hD 41 (by simp [waits, Region.binds])
        rw [q41] at r119
        clear ha hU hD
        rw [if_pos (by simp [Region.wanted, yielded, r117])]
        go_simp
        exact hK _ hC (Below.refl _ _)
      · -- 43
        intro vs a W K ha hC hD hU hK
        have r117 : a.tmps[117]? = some (vs 39) := by rw [ha]; exact fillA_get0 (j := 39) (by kernel_rfl) (by rw [hsz]; decide)
        have q39 : vs 39 = .bool true := hD 39 (by simp [waits, Region.binds])
        rw [q39] at r117
        have r120 : a.tmps[120]? = some (vs 42) := by rw [ha]; exact fillA_get0 (j := 42) (by kernel_rfl) (by rw [hsz]; decide)
        have q42 : vs 42 = .bool true := hD 42 (by simp [waits, Region.binds])
        rw [q42] at r120
        clear ha hU hD
        rw [if_pos (by rfl)]
        go_simp
        exact hK _ hC (Below.refl _ _)
      · -- 44
        intro vs a W K ha hC hD hU hK
        have r121 : a.tmps[121]? = some (vs 43) := by rw [ha]; exact fillA_get0 (j := 43) (by kernel_rfl) (by rw [hsz]; decide)
        have q43 : vs 43 = .bool true := hD 43 (by simp [waits, Region.binds])
        rw [q43] at r121
        clear ha hU hD
        rw [if_pos (by rfl)]
        go_simp
        exact hK _ hC (Below.refl _ _)
      · -- 45
        intro vs a W K ha hC hD hU hK
        have r122 : a.tmps[122]? = some (vs 44) := by rw [ha]; exact fillA_get0 (j := 44) (by kernel_rfl) (by rw [hsz]; decide)
        have q44 : vs 44 = .bool true := hD 44 (by simp [waits, Region.binds])
        rw [q44] at r122
        have r6 : a.tmps[6]? = some (.pointer (some ⟨g6, 0, none⟩)) := by rw [ha, fillA_base0 (by kernel_rfl)]; exact b6
        clear ha hU hD
        rw [if_pos (by simp [Region.wanted, yielded, r122])]
        obtain ⟨k0, k1, k2, k3, k4, k5, k6, k7, k8, k9, k10, k11⟩ := kk.out W hC
        go_simp
        exact hK _ hC (Below.refl _ _)
      · -- 46
        intro vs a W K ha hC hD hU hK
        have r122 : a.tmps[122]? = some (vs 44) := by rw [ha]; exact fillA_get0 (j := 44) (by kernel_rfl) (by rw [hsz]; decide)
        have q44 : vs 44 = .bool true := hD 44 (by simp [waits, Region.binds])
        rw [q44] at r122
        clear ha hU hD
        rw [if_pos (by simp [Region.wanted, yielded, r122])]
        go_simp
        refine (span8_any 8 10 W).mono ?_
        rintro e w' ⟨rfl, hb⟩
        exact hK _ (bl_call hC hb (Nat.le_refl _)) hb
      · -- 47
        intro vs a W K ha hC hD hU hK
        have r122 : a.tmps[122]? = some (vs 44) := by rw [ha]; exact fillA_get0 (j := 44) (by kernel_rfl) (by rw [hsz]; decide)
        have q44 : vs 44 = .bool true := hD 44 (by simp [waits, Region.binds])
        rw [q44] at r122
        have r123 : a.tmps[123]? = some (vs 45) := by rw [ha]; exact fillA_get0 (j := 45) (by kernel_rfl) (by rw [hsz]; decide)
        have q45 : vs 45 = .agg #[.int .i64 8, .int .i64 10] := hD 45 (by simp [waits, Region.binds])
        rw [q45] at r123
        have r124 : a.tmps[124]? = some (vs 46) := by rw [ha]; exact fillA_get0 (j := 46) (by kernel_rfl) (by rw [hsz]; decide)
        have q46 : vs 46 = .agg #[.int .i64 8, .int .i64 10] := hD 46 (by simp [waits, Region.binds])
        rw [q46] at r124
        clear ha hU hD
        rw [if_pos (by simp [Region.wanted, yielded, r122])]
        go_simp
        exact hK _ hC (Below.refl _ _)
      · -- 48
        intro vs a W K ha hC hD hU hK
        have r122 : a.tmps[122]? = some (vs 44) := by rw [ha]; exact fillA_get0 (j := 44) (by kernel_rfl) (by rw [hsz]; decide)
        have q44 : vs 44 = .bool true := hD 44 (by simp [waits, Region.binds])
        rw [q44] at r122
        have r125 : a.tmps[125]? = some (vs 47) := by rw [ha]; exact fillA_get0 (j := 47) (by kernel_rfl) (by rw [hsz]; decide)
        have q47 : vs 47 = .bool true := hD 47 (by simp [waits, Region.binds])
        rw [q47] at r125
        clear ha hU hD
        rw [if_pos (by rfl)]
        go_simp
        exact hK _ hC (Below.refl _ _)
      · -- 49
        intro vs a W K ha hC hD hU hK
        have r126 : a.tmps[126]? = some (vs 48) := by rw [ha]; exact fillA_get0 (j := 48) (by kernel_rfl) (by rw [hsz]; decide)
        have q48 : vs 48 = .bool true := hD 48 (by simp [waits, Region.binds])
        rw [q48] at r126
        clear ha hU hD
        rw [if_pos (by rfl)]
        go_simp
        exact hK _ hC (Below.refl _ _)
      · -- 50
        intro vs a W K ha hC hD hU hK
        have r127 : a.tmps[127]? = some (vs 49) := by rw [ha]; exact fillA_get0 (j := 49) (by kernel_rfl) (by rw [hsz]; decide)
        have q49 : vs 49 = .bool true := hD 49 (by simp [waits, Region.binds])
        rw [q49] at r127
        have r8 : a.tmps[8]? = some (.pointer (some ⟨g8, 0, none⟩)) := by rw [ha, fillA_base0 (by kernel_rfl)]; exact b8
        clear ha hU hD
        rw [if_pos (by simp [Region.wanted, yielded, r127])]
        obtain ⟨k0, k1, k2, k3, k4, k5, k6, k7, k8, k9, k10, k11⟩ := kk.out W hC
        go_simp
        exact hK _ hC (Below.refl _ _)
      · -- 51
        intro vs a W K ha hC hD hU hK
        have r127 : a.tmps[127]? = some (vs 49) := by rw [ha]; exact fillA_get0 (j := 49) (by kernel_rfl) (by rw [hsz]; decide)
        have q49 : vs 49 = .bool true := hD 49 (by simp [waits, Region.binds])
        rw [q49] at r127
        clear ha hU hD
        rw [if_pos (by simp [Region.wanted, yielded, r127])]
        go_simp
        refine (span8_any 15 17 W).mono ?_
        rintro e w' ⟨rfl, hb⟩
        exact hK _ (bl_call hC hb (Nat.le_refl _)) hb
      · -- 52
        intro vs a W K ha hC hD hU hK
        have r127 : a.tmps[127]? = some (vs 49) := by rw [ha]; exact fillA_get0 (j := 49) (by kernel_rfl) (by rw [hsz]; decide)
        have q49 : vs 49 = .bool true := hD 49 (by simp [waits, Region.binds])
        rw [q49] at r127
        have r128 : a.tmps[128]? = some (vs 50) := by rw [ha]; exact fillA_get0 (j := 50) (by kernel_rfl) (by rw [hsz]; decide)
        have q50 : vs 50 = .agg #[.int .i64 15, .int .i64 17] := hD 50 (by simp [waits, Region.binds])
        rw [q50] at r128
        have r129 : a.tmps[129]? = some (vs 51) := by rw [ha]; exact fillA_get0 (j := 51) (by kernel_rfl) (by rw [hsz]; decide)
        have q51 : vs 51 = .agg #[.int .i64 15, .int .i64 17] := hD 51 (by simp [waits, Region.binds])
        rw [q51] at r129
        clear ha hU hD
        rw [if_pos (by simp [Region.wanted, yielded, r127])]
        go_simp
        exact hK _ hC (Below.refl _ _)
      · -- 53
        intro vs a W K ha hC hD hU hK
        have r127 : a.tmps[127]? = some (vs 49) := by rw [ha]; exact fillA_get0 (j := 49) (by kernel_rfl) (by rw [hsz]; decide)
        have q49 : vs 49 = .bool true := hD 49 (by simp [waits, Region.binds])
        rw [q49] at r127
        have r130 : a.tmps[130]? = some (vs 52) := by rw [ha]; exact fillA_get0 (j := 52) (by kernel_rfl) (by rw [hsz]; decide)
        have q52 : vs 52 = .bool true := hD 52 (by simp [waits, Region.binds])
        rw [q52] at r130
        clear ha hU hD
        rw [if_pos (by rfl)]
        go_simp
        exact hK _ hC (Below.refl _ _)
      · -- 54
        intro vs a W K ha hC hD hU hK
        have r131 : a.tmps[131]? = some (vs 53) := by rw [ha]; exact fillA_get0 (j := 53) (by kernel_rfl) (by rw [hsz]; decide)
        have q53 : vs 53 = .bool true := hD 53 (by simp [waits, Region.binds])
        rw [q53] at r131
        clear ha hU hD
        rw [if_pos (by rfl)]
        go_simp
        exact hK _ hC (Below.refl _ _)
      · -- 55
        intro vs a W K ha hC hD hU hK
        have r132 : a.tmps[132]? = some (vs 54) := by rw [ha]; exact fillA_get0 (j := 54) (by kernel_rfl) (by rw [hsz]; decide)
        have q54 : vs 54 = .bool true := hD 54 (by simp [waits, Region.binds])
        rw [q54] at r132
        have r10 : a.tmps[10]? = some (.int .i64 2) := by rw [ha, fillA_base0 (by kernel_rfl)]; exact b10
        clear ha hU hD
        rw [if_pos (by simp [Region.wanted, yielded, r132])]
        go_simp
        exact hK _ hC (Below.refl _ _)
      · -- 56
        intro vs a W K ha hC hD hU hK
        have r132 : a.tmps[132]? = some (vs 54) := by rw [ha]; exact fillA_get0 (j := 54) (by kernel_rfl) (by rw [hsz]; decide)
        have q54 : vs 54 = .bool true := hD 54 (by simp [waits, Region.binds])
        rw [q54] at r132
        have r133 : a.tmps[133]? = some (vs 55) := by rw [ha]; exact fillA_get0 (j := 55) (by kernel_rfl) (by rw [hsz]; decide)
        have q55 : vs 55 = .int .i64 2 := hD 55 (by simp [waits, Region.binds])
        rw [q55] at r133
        clear ha hU hD
        rw [if_pos (by simp [Region.wanted, yielded, r132])]
        go_simp
        exact hK _ hC (Below.refl _ _)
      · -- 57
        intro vs a W K ha hC hD hU hK
        have r132 : a.tmps[132]? = some (vs 54) := by rw [ha]; exact fillA_get0 (j := 54) (by kernel_rfl) (by rw [hsz]; decide)
        have q54 : vs 54 = .bool true := hD 54 (by simp [waits, Region.binds])
        rw [q54] at r132
        have r134 : a.tmps[134]? = some (vs 56) := by rw [ha]; exact fillA_get0 (j := 56) (by kernel_rfl) (by rw [hsz]; decide)
        have q56 : vs 56 = .bool true := hD 56 (by simp [waits, Region.binds])
        rw [q56] at r134
        clear ha hU hD
        rw [if_pos (by rfl)]
        go_simp
        exact hK _ hC (Below.refl _ _)
      · -- 58
        intro vs a W K ha hC hD hU hK
        have r135 : a.tmps[135]? = some (vs 57) := by rw [ha]; exact fillA_get0 (j := 57) (by kernel_rfl) (by rw [hsz]; decide)
        have q57 : vs 57 = .bool true := hD 57 (by simp [waits, Region.binds])
        rw [q57] at r135
        clear ha hU hD
        rw [if_pos (by rfl)]
        go_simp
        exact hK _ hC (Below.refl _ _)
      · -- 59
        intro vs a W K ha hC hD hU hK
        have r136 : a.tmps[136]? = some (vs 58) := by rw [ha]; exact fillA_get0 (j := 58) (by kernel_rfl) (by rw [hsz]; decide)
        have q58 : vs 58 = .bool true := hD 58 (by simp [waits, Region.binds])
        rw [q58] at r136
        have r11 : a.tmps[11]? = some (.int .i64 10) := by rw [ha, fillA_base0 (by kernel_rfl)]; exact b11
        clear ha hU hD
        rw [if_pos (by simp [Region.wanted, yielded, r136])]
        go_simp
        exact hK _ hC (Below.refl _ _)
      · -- 60
        intro vs a W K ha hC hD hU hK
        have r136 : a.tmps[136]? = some (vs 58) := by rw [ha]; exact fillA_get0 (j := 58) (by kernel_rfl) (by rw [hsz]; decide)
        have q58 : vs 58 = .bool true := hD 58 (by simp [waits, Region.binds])
        rw [q58] at r136
        have r137 : a.tmps[137]? = some (vs 59) := by rw [ha]; exact fillA_get0 (j := 59) (by kernel_rfl) (by rw [hsz]; decide)
        have q59 : vs 59 = .int .i64 10 := hD 59 (by simp [waits, Region.binds])
        rw [q59] at r137
        clear ha hU hD
        rw [if_pos (by simp [Region.wanted, yielded, r136])]
        go_simp
        exact hK _ hC (Below.refl _ _)
      · -- 61
        intro vs a W K ha hC hD hU hK
        have r136 : a.tmps[136]? = some (vs 58) := by rw [ha]; exact fillA_get0 (j := 58) (by kernel_rfl) (by rw [hsz]; decide)
        have q58 : vs 58 = .bool true := hD 58 (by simp [waits, Region.binds])
        rw [q58] at r136
        have r138 : a.tmps[138]? = some (vs 60) := by rw [ha]; exact fillA_get0 (j := 60) (by kernel_rfl) (by rw [hsz]; decide)
        have q60 : vs 60 = .bool true := hD 60 (by simp [waits, Region.binds])
        rw [q60] at r138
        clear ha hU hD
        rw [if_pos (by rfl)]
        go_simp
        exact hK _ hC (Below.refl _ _)
      · -- 62
        intro vs a W K ha hC hD hU hK
        have r139 : a.tmps[139]? = some (vs 61) := by rw [ha]; exact fillA_get0 (j := 61) (by kernel_rfl) (by rw [hsz]; decide)
        have q61 : vs 61 = .bool true := hD 61 (by simp [waits, Region.binds])
        rw [q61] at r139
        clear ha hU hD
        rw [if_pos (by rfl)]
        go_simp
        exact hK _ hC (Below.refl _ _)
      · -- 63
        intro vs a W K ha hC hD hU hK
        have r140 : a.tmps[140]? = some (vs 62) := by rw [ha]; exact fillA_get0 (j := 62) (by kernel_rfl) (by rw [hsz]; decide)
        have q62 : vs 62 = .bool true := hD 62 (by simp [waits, Region.binds])
        rw [q62] at r140
        have r13 : a.tmps[13]? = some (.int .i64 0) := by rw [ha, fillA_base0 (by kernel_rfl)]; exact b13
        clear ha hU hD
        rw [if_pos (by simp [Region.wanted, yielded, r140])]
        go_simp
        exact hK _ hC (Below.refl _ _)
      · -- 64
        intro vs a W K ha hC hD hU hK
        have r140 : a.tmps[140]? = some (vs 62) := by rw [ha]; exact fillA_get0 (j := 62) (by kernel_rfl) (by rw [hsz]; decide)
        have q62 : vs 62 = .bool true := hD 62 (by simp [waits, Region.binds])
        rw [q62] at r140
        have r141 : a.tmps[141]? = some (vs 63) := by rw [ha]; exact fillA_get0 (j := 63) (by kernel_rfl) (by rw [hsz]; decide)
        have q63 : vs 63 = .int .i64 0 := hD 63 (by simp [waits, Region.binds])
        rw [q63] at r141
        clear ha hU hD
        rw [if_pos (by simp [Region.wanted, yielded, r140])]
        go_simp
        exact hK _ hC (Below.refl _ _)
      · -- 65
        intro vs a W K ha hC hD hU hK
        have r140 : a.tmps[140]? = some (vs 62) := by rw [ha]; exact fillA_get0 (j := 62) (by kernel_rfl) (by rw [hsz]; decide)
        have q62 : vs 62 = .bool true := hD 62 (by simp [waits, Region.binds])
        rw [q62] at r140
        have r142 : a.tmps[142]? = some (vs 64) := by rw [ha]; exact fillA_get0 (j := 64) (by kernel_rfl) (by rw [hsz]; decide)
        have q64 : vs 64 = .bool true := hD 64 (by simp [waits, Region.binds])
        rw [q64] at r142
        clear ha hU hD
        rw [if_pos (by rfl)]
        go_simp
        exact hK _ hC (Below.refl _ _)
      · -- 66
        intro vs a W K ha hC hD hU hK
        have r143 : a.tmps[143]? = some (vs 65) := by rw [ha]; exact fillA_get0 (j := 65) (by kernel_rfl) (by rw [hsz]; decide)
        have q65 : vs 65 = .bool true := hD 65 (by simp [waits, Region.binds])
        rw [q65] at r143
        clear ha hU hD
        rw [if_pos (by rfl)]
        go_simp
        exact hK _ hC (Below.refl _ _)
      · -- 67
        intro vs a W K ha hC hD hU hK
        have r144 : a.tmps[144]? = some (vs 66) := by rw [ha]; exact fillA_get0 (j := 66) (by kernel_rfl) (by rw [hsz]; decide)
        have q66 : vs 66 = .bool true := hD 66 (by simp [waits, Region.binds])
        rw [q66] at r144
        have r14 : a.tmps[14]? = some (.int .i64 0) := by rw [ha, fillA_base0 (by kernel_rfl)]; exact b14
        clear ha hU hD
        rw [if_pos (by simp [Region.wanted, yielded, r144])]
        go_simp
        exact hK _ hC (Below.refl _ _)
      · -- 68
        intro vs a W K ha hC hD hU hK
        have r144 : a.tmps[144]? = some (vs 66) := by rw [ha]; exact fillA_get0 (j := 66) (by kernel_rfl) (by rw [hsz]; decide)
        have q66 : vs 66 = .bool true := hD 66 (by simp [waits, Region.binds])
        rw [q66] at r144
        have r145 : a.tmps[145]? = some (vs 67) := by rw [ha]; exact fillA_get0 (j := 67) (by kernel_rfl) (by rw [hsz]; decide)
        have q67 : vs 67 = .int .i64 0 := hD 67 (by simp [waits, Region.binds])
        rw [q67] at r145
        clear ha hU hD
        rw [if_pos (by simp [Region.wanted, yielded, r144])]
        go_simp
        exact hK _ hC (Below.refl _ _)
      · -- 69
        intro vs a W K ha hC hD hU hK
        have r144 : a.tmps[144]? = some (vs 66) := by rw [ha]; exact fillA_get0 (j := 66) (by kernel_rfl) (by rw [hsz]; decide)
        have q66 : vs 66 = .bool true := hD 66 (by simp [waits, Region.binds])
        rw [q66] at r144
        have r146 : a.tmps[146]? = some (vs 68) := by rw [ha]; exact fillA_get0 (j := 68) (by kernel_rfl) (by rw [hsz]; decide)
        have q68 : vs 68 = .bool true := hD 68 (by simp [waits, Region.binds])
        rw [q68] at r146
        clear ha hU hD
        rw [if_pos (by rfl)]
        go_simp
        exact hK _ hC (Below.refl _ _)
      · -- 70
        intro vs a W K ha hC hD hU hK
        have r147 : a.tmps[147]? = some (vs 69) := by rw [ha]; exact fillA_get0 (j := 69) (by kernel_rfl) (by rw [hsz]; decide)
        have q69 : vs 69 = .bool true := hD 69 (by simp [waits, Region.binds])
        rw [q69] at r147
        clear ha hU hD
        rw [if_pos (by rfl)]
        go_simp
        exact hK _ hC (Below.refl _ _)
      · -- 71
        intro vs a W K ha hC hD hU hK
        have r148 : a.tmps[148]? = some (vs 70) := by rw [ha]; exact fillA_get0 (j := 70) (by kernel_rfl) (by rw [hsz]; decide)
        have q70 : vs 70 = .bool true := hD 70 (by simp [waits, Region.binds])
        rw [q70] at r148
        have r16 : a.tmps[16]? = some (.pointer (some ⟨g16, 0, none⟩)) := by rw [ha, fillA_base0 (by kernel_rfl)]; exact b16
        clear ha hU hD
        rw [if_pos (by simp [Region.wanted, yielded, r148])]
        obtain ⟨k0, k1, k2, k3, k4, k5, k6, k7, k8, k9, k10, k11⟩ := kk.out W hC
        go_simp
        exact hK _ hC (Below.refl _ _)
      · -- 72
        intro vs a W K ha hC hD hU hK
        have r148 : a.tmps[148]? = some (vs 70) := by rw [ha]; exact fillA_get0 (j := 70) (by kernel_rfl) (by rw [hsz]; decide)
        have q70 : vs 70 = .bool true := hD 70 (by simp [waits, Region.binds])
        rw [q70] at r148
        clear ha hU hD
        rw [if_pos (by simp [Region.wanted, yielded, r148])]
        go_simp
        refine (span8_any 0 40 W).mono ?_
        rintro e w' ⟨rfl, hb⟩
        exact hK _ (bl_call hC hb (Nat.le_refl _)) hb
      · -- 73
        intro vs a W K ha hC hD hU hK
        have r148 : a.tmps[148]? = some (vs 70) := by rw [ha]; exact fillA_get0 (j := 70) (by kernel_rfl) (by rw [hsz]; decide)
        have q70 : vs 70 = .bool true := hD 70 (by simp [waits, Region.binds])
        rw [q70] at r148
        have r149 : a.tmps[149]? = some (vs 71) := by rw [ha]; exact fillA_get0 (j := 71) (by kernel_rfl) (by rw [hsz]; decide)
        have q71 : vs 71 = .agg #[.int .i64 0, .int .i64 40] := hD 71 (by simp [waits, Region.binds])
        rw [q71] at r149
        have r150 : a.tmps[150]? = some (vs 72) := by rw [ha]; exact fillA_get0 (j := 72) (by kernel_rfl) (by rw [hsz]; decide)
        have q72 : vs 72 = .agg #[.int .i64 0, .int .i64 40] := hD 72 (by simp [waits, Region.binds])
        rw [q72] at r150
        clear ha hU hD
        rw [if_pos (by simp [Region.wanted, yielded, r148])]
        go_simp
        exact hK _ hC (Below.refl _ _)
      · -- 74
        intro vs a W K ha hC hD hU hK
        have r148 : a.tmps[148]? = some (vs 70) := by rw [ha]; exact fillA_get0 (j := 70) (by kernel_rfl) (by rw [hsz]; decide)
        have q70 : vs 70 = .bool true := hD 70 (by simp [waits, Region.binds])
        rw [q70] at r148
        have r151 : a.tmps[151]? = some (vs 73) := by rw [ha]; exact fillA_get0 (j := 73) (by kernel_rfl) (by rw [hsz]; decide)
        have q73 : vs 73 = .bool true := hD 73 (by simp [waits, Region.binds])
        rw [q73] at r151
        clear ha hU hD
        rw [if_pos (by rfl)]
        go_simp
        exact hK _ hC (Below.refl _ _)
      · -- 75
        intro vs a W K ha hC hD hU hK
        have r152 : a.tmps[152]? = some (vs 74) := by rw [ha]; exact fillA_get0 (j := 74) (by kernel_rfl) (by rw [hsz]; decide)
        have q74 : vs 74 = .bool true := hD 74 (by simp [waits, Region.binds])
        rw [q74] at r152
        clear ha hU hD
        rw [if_pos (by rfl)]
        go_simp
        exact hK _ hC (Below.refl _ _)
      · -- 76
        intro vs a W K ha hC hD hU hK
        have r153 : a.tmps[153]? = some (vs 75) := by rw [ha]; exact fillA_get0 (j := 75) (by kernel_rfl) (by rw [hsz]; decide)
        have q75 : vs 75 = .bool true := hD 75 (by simp [waits, Region.binds])
        rw [q75] at r153
        have r18 : a.tmps[18]? = some (.pointer (some ⟨g18, 0, none⟩)) := by rw [ha, fillA_base0 (by kernel_rfl)]; exact b18
        clear ha hU hD
        rw [if_pos (by simp [Region.wanted, yielded, r153])]
        obtain ⟨k0, k1, k2, k3, k4, k5, k6, k7, k8, k9, k10, k11⟩ := kk.out W hC
        go_simp
        exact hK _ hC (Below.refl _ _)
      · -- 77
        intro vs a W K ha hC hD hU hK
        have r153 : a.tmps[153]? = some (vs 75) := by rw [ha]; exact fillA_get0 (j := 75) (by kernel_rfl) (by rw [hsz]; decide)
        have q75 : vs 75 = .bool true := hD 75 (by simp [waits, Region.binds])
        rw [q75] at r153
        clear ha hU hD
        rw [if_pos (by simp [Region.wanted, yielded, r153])]
        go_simp
        refine (span8_any 0 7 W).mono ?_
        rintro e w' ⟨rfl, hb⟩
        exact hK _ (bl_call hC hb (Nat.le_refl _)) hb
      · -- 78
        intro vs a W K ha hC hD hU hK
        have r153 : a.tmps[153]? = some (vs 75) := by rw [ha]; exact fillA_get0 (j := 75) (by kernel_rfl) (by rw [hsz]; decide)
        have q75 : vs 75 = .bool true := hD 75 (by simp [waits, Region.binds])
        rw [q75] at r153
        have r154 : a.tmps[154]? = some (vs 76) := by rw [ha]; exact fillA_get0 (j := 76) (by kernel_rfl) (by rw [hsz]; decide)
        have q76 : vs 76 = .agg #[.int .i64 0, .int .i64 7] := hD 76 (by simp [waits, Region.binds])
        rw [q76] at r154
        have r155 : a.tmps[155]? = some (vs 77) := by rw [ha]; exact fillA_get0 (j := 77) (by kernel_rfl) (by rw [hsz]; decide)
        have q77 : vs 77 = .agg #[.int .i64 0, .int .i64 7] := hD 77 (by simp [waits, Region.binds])
        rw [q77] at r155
        clear ha hU hD
        rw [if_pos (by simp [Region.wanted, yielded, r153])]
        go_simp
        exact hK _ hC (Below.refl _ _)
      · -- 79
        intro vs a W K ha hC hD hU hK
        have r153 : a.tmps[153]? = some (vs 75) := by rw [ha]; exact fillA_get0 (j := 75) (by kernel_rfl) (by rw [hsz]; decide)
        have q75 : vs 75 = .bool true := hD 75 (by simp [waits, Region.binds])
        rw [q75] at r153
        have r156 : a.tmps[156]? = some (vs 78) := by rw [ha]; exact fillA_get0 (j := 78) (by kernel_rfl) (by rw [hsz]; decide)
        have q78 : vs 78 = .bool true := hD 78 (by simp [waits, Region.binds])
        rw [q78] at r156
        clear ha hU hD
        rw [if_pos (by rfl)]
        go_simp
        exact hK _ hC (Below.refl _ _)
      · -- 80
        intro vs a W K ha hC hD hU hK
        have r157 : a.tmps[157]? = some (vs 79) := by rw [ha]; exact fillA_get0 (j := 79) (by kernel_rfl) (by rw [hsz]; decide)
        have q79 : vs 79 = .bool true := hD 79 (by simp [waits, Region.binds])
        rw [q79] at r157
        clear ha hU hD
        rw [if_pos (by rfl)]
        go_simp
        exact hK _ hC (Below.refl _ _)
      · -- 81
        intro vs a W K ha hC hD hU hK
        have r158 : a.tmps[158]? = some (vs 80) := by rw [ha]; exact fillA_get0 (j := 80) (by kernel_rfl) (by rw [hsz]; decide)
        have q80 : vs 80 = .bool true := hD 80 (by simp [waits, Region.binds])
        rw [q80] at r158
        have r20 : a.tmps[20]? = some (.slice Am 0 cm) := by rw [ha, fillA_base0 (by kernel_rfl)]; exact b20
        clear ha hU hD
        rw [if_pos (by simp [Region.wanted, yielded, r158])]
        go_simp
        exact hK _ hC (Below.refl _ _)
      · -- 82
        intro vs a W K ha hC hD hU hK
        have r158 : a.tmps[158]? = some (vs 80) := by rw [ha]; exact fillA_get0 (j := 80) (by kernel_rfl) (by rw [hsz]; decide)
        have q80 : vs 80 = .bool true := hD 80 (by simp [waits, Region.binds])
        rw [q80] at r158
        have r159 : a.tmps[159]? = some (vs 81) := by rw [ha]; exact fillA_get0 (j := 81) (by kernel_rfl) (by rw [hsz]; decide)
        have q81 : vs 81 = .slice Am 0 cm := hD 81 (by simp [waits, Region.binds])
        rw [q81] at r159
        clear ha hU hD
        rw [if_pos (by simp [Region.wanted, yielded, r158])]
        go_simp
        exact hK _ hC (Below.refl _ _)
      · -- 83
        intro vs a W K ha hC hD hU hK
        have r158 : a.tmps[158]? = some (vs 80) := by rw [ha]; exact fillA_get0 (j := 80) (by kernel_rfl) (by rw [hsz]; decide)
        have q80 : vs 80 = .bool true := hD 80 (by simp [waits, Region.binds])
        rw [q80] at r158
        have r160 : a.tmps[160]? = some (vs 82) := by rw [ha]; exact fillA_get0 (j := 82) (by kernel_rfl) (by rw [hsz]; decide)
        have q82 : vs 82 = .int .i64 0 := hD 82 (by simp [waits, Region.binds])
        rw [q82] at r160
        clear ha hU hD
        rw [if_pos (by simp [Region.wanted, yielded, r158])]
        go_simp
        exact hK _ hC (Below.refl _ _)
      · -- 84
        intro vs a W K ha hC hD hU hK
        have r158 : a.tmps[158]? = some (vs 80) := by rw [ha]; exact fillA_get0 (j := 80) (by kernel_rfl) (by rw [hsz]; decide)
        have q80 : vs 80 = .bool true := hD 80 (by simp [waits, Region.binds])
        rw [q80] at r158
        have r161 : a.tmps[161]? = some (vs 83) := by rw [ha]; exact fillA_get0 (j := 83) (by kernel_rfl) (by rw [hsz]; decide)
        have q83 : vs 83 = .bool true := hD 83 (by simp [waits, Region.binds])
        rw [q83] at r161
        clear ha hU hD
        rw [if_pos (by rfl)]
        go_simp
        exact hK _ hC (Below.refl _ _)
      · -- 85
        intro vs a W K ha hC hD hU hK
        have r162 : a.tmps[162]? = some (vs 84) := by rw [ha]; exact fillA_get0 (j := 84) (by kernel_rfl) (by rw [hsz]; decide)
        have q84 : vs 84 = .bool true := hD 84 (by simp [waits, Region.binds])
        rw [q84] at r162
        clear ha hU hD
        rw [if_pos (by rfl)]
        go_simp
        exact hK _ hC (Below.refl _ _)
      · -- 86
        intro vs a W K ha hC hD hU hK
        have r163 : a.tmps[163]? = some (vs 85) := by rw [ha]; exact fillA_get0 (j := 85) (by kernel_rfl) (by rw [hsz]; decide)
        have q85 : vs 85 = .bool true := hD 85 (by simp [waits, Region.binds])
        rw [q85] at r163
        clear ha hU hD
        rw [if_pos (by simp [Region.wanted, yielded, r163])]
        go_simp
        refine (awake_any W).mono ?_
        rintro e w' ⟨rfl, hb⟩
        exact hK _ (bl_call hC hb (Nat.le_refl _)) hb
      · -- 87
        intro vs a W K ha hC hD hU hK
        have r163 : a.tmps[163]? = some (vs 85) := by rw [ha]; exact fillA_get0 (j := 85) (by kernel_rfl) (by rw [hsz]; decide)
        have q85 : vs 85 = .bool true := hD 85 (by simp [waits, Region.binds])
        rw [q85] at r163
        have r164 : a.tmps[164]? = some (vs 86) := by rw [ha]; exact fillA_get0 (j := 86) (by kernel_rfl) (by rw [hsz]; decide)
        have q86 : vs 86 = .bool true := hD 86 (by simp [waits, Region.binds])
        rw [q86] at r164
        clear ha hU hD
        rw [if_pos (by rfl)]
        go_simp
        exact hK _ hC (Below.refl _ _)
      · -- 88
        intro vs a W K ha hC hD hU hK
        have r165 : a.tmps[165]? = some (vs 87) := by rw [ha]; exact fillA_get0 (j := 87) (by kernel_rfl) (by rw [hsz]; decide)
        have q87 : vs 87 = .bool true := hD 87 (by simp [waits, Region.binds])
        rw [q87] at r165
        clear ha hU hD
        rw [if_pos (by rfl)]
        go_simp
        exact hK _ hC (Below.refl _ _)
    case finA =>
      refine Fin1.none (Nat.le_refl _) ?_
      intro vs W a1 hC hE ha
      have e0 : vs 88 = .bool true := hE 88 (by simp)
      have r0 : a1.tmps[0]? = some (vs 88) := by rw [ha]; exact fillA_get0 (j := 88) (by kernel_rfl) (by rw [hsz]; decide)
      have hdf1 : a1.defers = [] := by rw [ha, fillA_defers]; exact hdf
      rw [e0] at r0
      have hBF := bl_call HB8.out hC (Nat.le_refl _)
      clear ha hE hC e0
      go_simp
      go_wp2
      refine bodyPost_ret (results_tmp rfl _ _ _) hdf1 ?_
      exact ⟨by simp [r0], hBF⟩

end Go.Proofs.Ytpbimgafafkjgaa
