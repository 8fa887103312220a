/- Walks, layer 7: the law CastKnown. -/
import Derived.Test.YtnaadjhiahjlfaaCKLaw4
set_option linter.unusedVariables false
set_option linter.unusedSimpArgs false
set_option linter.all false
namespace Go.Proofs.Ytnaadjhiahjlfaa
open Go.RowKit Go.Shelf

theorem kn7_a : sizesR exShop [] 0 0 = ((988, 992), 0) := by decide +kernel
theorem kn7_b : sizesR exShop [] 1 1 = ((998, 1000), 0) := by decide +kernel
theorem kn7_c : sizesR exShop exSeen7 0 0 = ((988, 990), 0) := by decide +kernel
theorem kn7_k : shrinksR exShop [] = ([10, 11, 12], 0) := by decide +kernel
theorem kn7_l : fitsR exShop exSeen7 990 1000 = ([(0, 1), (0, 2), (0, 3), (1, 0), (1, 1)], 0) := by decide +kernel
theorem kn7_p : planR exShop exSeen7 [(990, 1000), (998, 999)] = ([(1, 0), (1, 1)], [1], 0) := by decide +kernel
theorem kn7_n : lacksR exShop [] [(990, 1000), (980, 985)] = ([1], 0) := by decide +kernel

/-- what the operations of the regions with Sizes promise -/
def sizEk (B : Nat) (hv : Value) (pm pc lo hi : Int) : Nat → Bool → Value → World → Prop
  | 0, _, v, _ => v = hv
  | 1, _, v, _ => v = .agg #[.int .i64 pm, .int .i64 pc]
  | 2, _, v, _ => v = .tuple #[.agg #[.int .i64 lo, .int .i64 hi], .int .i64 0]
  | 3, _, v, _ => v = .tuple #[.agg #[.int .i64 lo, .int .i64 hi], .int .i64 0]
  | 4, _, v, _ => v = .agg #[.int .i64 lo, .int .i64 hi]
  | 5, _, v, _ => v = .int .i64 0
  | 6, b, v, W => ∃ g, B ≤ g ∧ v = .pointer (some ⟨g, 0, none⟩) ∧ Blk W g 23 (if b then #[.int .i64 lo, .int .i64 hi] else #[.int .i64 0, .int .i64 0])
  | _, _, _, _ => True
theorem sizEk_stab (B : Nat) (hv : Value) (pm pc lo hi : Int) : ∀ i b v w w', Below w.heap.size w w' → sizEk B hv pm pc lo hi i b v w → sizEk B hv pm pc lo hi i b v w'
  | 0, _, _, _, _, _, h => h
  | 1, _, _, _, _, _, h => h
  | 2, _, _, _, _, _, h => h
  | 3, _, _, _, _, _, h => h
  | 4, _, _, _, _, _, h => h
  | 5, _, _, _, _, _, h => h
  | 6, _, _, _, _, hb, ⟨g, h1, h2, h3⟩ => ⟨g, h1, h2, h3.bl hb⟩
  | _ + 7, _, _, _, _, _, _ => trivial
def sizFk (B : Nat) (hv : Value) (pm pc lo hi : Int) : Nat → Bool → Value → World → Prop
  | 0, _, v, _ => v = hv
  | 1, b, v, W => b = false → IsSeen7 B v W
  | 2, _, v, _ => v = .agg #[.int .i64 pm, .int .i64 pc]
  | 3, _, v, _ => v = .tuple #[.agg #[.int .i64 lo, .int .i64 hi], .int .i64 0]
  | 4, _, v, _ => v = .tuple #[.agg #[.int .i64 lo, .int .i64 hi], .int .i64 0]
  | 5, _, v, _ => v = .agg #[.int .i64 lo, .int .i64 hi]
  | 6, _, v, _ => v = .int .i64 0
  | 7, b, v, W => ∃ g, B ≤ g ∧ v = .pointer (some ⟨g, 0, none⟩) ∧ Blk W g 23 (if b then #[.int .i64 lo, .int .i64 hi] else #[.int .i64 0, .int .i64 0])
  | _, _, _, _ => True
theorem sizFk_stab (B : Nat) (hv : Value) (pm pc lo hi : Int) : ∀ i b v w w', Below w.heap.size w w' → sizFk B hv pm pc lo hi i b v w → sizFk B hv pm pc lo hi i b v w'
  | 0, _, _, _, _, _, h => h
  | 1, _, _, _, _, hb, h => fun e => (h e).bl hb
  | 2, _, _, _, _, _, h => h
  | 3, _, _, _, _, _, h => h
  | 4, _, _, _, _, _, h => h
  | 5, _, _, _, _, _, h => h
  | 6, _, _, _, _, _, h => h
  | 7, _, _, _, _, hb, ⟨g, h1, h2, h3⟩ => ⟨g, h1, h2, h3.bl hb⟩
  | _ + 8, _, _, _, _, _, _ => trivial

set_option maxRecDepth 100000 in
set_option maxHeartbeats 4000000 in
theorem knownLaw_any (w : World) :
    Calls Try.prog 6 #[] w fun e w' => e = .returned (.bool true) ∧ Below w.heap.size w w' := by
  go_enter Try.func6, Try.ntmps6
  go_wp2_with fail
  refine (shop30_any w).mono ?_
  rintro e W1 ⟨⟨v, rfl, A1, ca1, rfl, hH1, hca1⟩, b1⟩
  obtain ⟨W2, hW2⟩ : ∃ W2, W1.alloc (.cells #[.int .i64 10, .int .i64 12, .slice (some ⟨A1, 0, none⟩) 2 ca1] 46) = W2 := ⟨_, rfl⟩
  have X1 : Blk W2 W1.heap.size 46 #[.int .i64 10, .int .i64 12, .slice (some ⟨A1, 0, none⟩) 2 ca1] := by rw [← hW2]; exact Blk.new _ _ _ rfl
  have HM := Lib.hid (show Moulds (fun _ => True) W2 (some ⟨A1, 0, none⟩) 2 exShop.moulds by rw [← hW2]; exact (hH1.keep MouldR.good (Keeps.alloc _ _)).mono MouldR.good fun _ _ => trivial)
  have HB2 : Hid (Below w.heap.size w W2) := by rw [Hid, ← hW2]; exact bl_alloc b1 _ (Nat.le_refl _)
  have hx0 := Lib.hid X1
  obtain ⟨gS, hgS⟩ : ∃ g, W1.heap.size = g := ⟨_, rfl⟩
  rw [hgS] at hx0
  have x0 := X1.cell 0
  have x1 := X1.cell 1
  have x2 := X1.cell 2
  clear hH1 b1
  go_wp2_with fail
  clear hW2 X1 x0 x1 x2
  first
  | rw [hgS]
  | skip
  clear hgS
  have HBV : Hid (Below W2.heap.size W2 W2) := Below.refl _ _
  have hx := hx0
  have AS := Lib.hid (sizEk_stab W2.heap.size (.agg #[.int .i64 10, .int .i64 12, .slice (some ⟨A1, 0, none⟩) 2 ca1]) 0 0 988 992)
  refine wp_region_invs (InvE W2.heap.size W2 (sizEk W2.heap.size (.agg #[.int .i64 10, .int .i64 12, .slice (some ⟨A1, 0, none⟩) 2 ca1]) 0 0 988 992) 7) 8 (by kernel_rfl) (by kernel_rfl) (by kernel_rfl) (by rfl) ⟨(Below.refl _ _).drew, fun i h => by cases h⟩ ?step (by rfl) (by rfl) ?fin
  case step =>
    refine StepsI.cons ?_ (StepsI.cons ?_ (StepsI.cons ?_ (StepsI.cons ?_ (StepsI.cons ?_ (StepsI.cons ?_ (StepsI.cons ?_ (StepsI.cons ?_ StepsI.nil)))))))
    all_goals
      refine StepI.of ?_
      intro ls vs W K hI hl hw hU hK
      simp only [fillA, Act.put, List.setIfInBounds_toArray, List.set_cons_zero, List.set_cons_succ, Nat.zero_add, Nat.reduceAdd] at hK ⊢
      simp [waits, Region.binds] at hw
      have hC := hI.1
    · have hR := hx.out.bl (bl_call HBV.out hC (Nat.le_refl _))
      have k0 := hR.cell 0
      have k1 := hR.cell 1
      have k2 := hR.cell 2
      clear hR
      go_simp
      exact hK _ _ (hI.step AS.out (Below.refl _ _) hC.size (by decide) rfl)
    · go_simp
      refine (at7_any 0 0 W).mono ?_
      rintro e w' ⟨rfl, hb⟩
      exact hK _ _ (hI.step AS.out hb hC.size (by decide) rfl)
    · have h1 : vs 0 = _ := hI.2 0 (by simp [hw])
      have h3 : vs 1 = _ := hI.2 1 (by simp [hw])
      simp only [h1, h3] at hK ⊢
      go_simp
      refine (ksizes_any (s := exShop) (l := []) 0 0 W (HM.out.keep MouldR.good (Keeps.below (bl_call HBV.out hC (Nat.le_refl _)))) (SliceOf.nil _ _ _ _ _) hca1 rfl rfl).mono ?_
      rw [kn7_a]
      rintro e w' ⟨rfl, hb⟩
      exact hK _ _ (hI.step AS.out hb hC.size (by decide) rfl)
    · have h1 : vs 2 = _ := hI.2 2 (by simp [hw])
      simp only [h1] at hK ⊢
      go_simp
      exact hK _ _ (hI.step AS.out (Below.refl _ _) hC.size (by decide) rfl)
    · have h1 : vs 3 = _ := hI.2 3 (by simp [hw])
      simp only [h1] at hK ⊢
      go_simp
      exact hK _ _ (hI.step AS.out (Below.refl _ _) hC.size (by decide) rfl)
    · have h1 : vs 3 = _ := hI.2 3 (by simp [hw])
      simp only [h1] at hK ⊢
      go_simp
      exact hK _ _ (hI.step AS.out (Below.refl _ _) hC.size (by decide) rfl)
    · have h8 : ls 7 = false := (hU 7 _ rfl (by simp [waits, Region.binds])).1
      go_simp
      exact hK _ _ (hI.step AS.out (bl_alloc (Below.refl _ _) _ (Nat.le_refl _)) hC.size (by decide) ⟨_, hC.size, rfl, by rw [h8]; exact Blk.new _ _ _ rfl⟩)
    · have h1 : vs 4 = _ := hI.2 4 (by simp [hw])
      obtain ⟨g4, hg4, h4, hB4⟩ := hI.2 6 (by simp [hw])
      rw [hl] at hB4
      have z0 : W.cell? ⟨g4, 0, none⟩ = some (.int .i64 0) := hB4.cell 0
      have z1 : W.cell? ⟨g4, 1, none⟩ = some (.int .i64 0) := hB4.cell 1
      have fz0 := hB4.frozen 0
      have fz1 := hB4.frozen 1
      have hl4 := hB4.lt
      simp only [h1, h4] at hK ⊢
      go_simp
      refine hK undef _ ⟨bl_set (bl_set hC hg4 _) hg4 _, fun i hi => ?_⟩
      have hb8 : updB ls 7 7 = true := by unfold updB; rw [if_pos rfl]
      rw [hb8]
      match i, hi with
      | 0, hi => exact hI.2 0 hi
      | 1, hi => exact hI.2 1 hi
      | 2, hi => exact hI.2 2 hi
      | 3, hi => exact hI.2 3 hi
      | 4, hi => exact hI.2 4 hi
      | 5, hi => exact hI.2 5 hi
      | 6, _ => exact ⟨g4, hg4, h4, hB4.set2 _ _⟩
      | _ + 7, _ => trivial
  case fin =>
    intro ls vs W hI hl hU
    have e6 : vs 5 = _ := hI.2 5 (hl 5 (by decide))
    obtain ⟨g2, hg4, h4, hB4⟩ := hI.2 6 (hl 6 (by decide))
    rw [hl 7 (by decide)] at hB4
    have Sg2 : Hid (Blk W g2 23 #[.int .i64 988, .int .i64 992]) := hB4
    have b4 := hI.1
    simp only [fillA, Act.put, List.setIfInBounds_toArray, List.set_cons_zero, List.set_cons_succ, Nat.zero_add, Nat.reduceAdd, e6, h4]
    obtain ⟨u0, hu0⟩ : ∃ v0, vs 0 = v0 := ⟨_, rfl⟩
    obtain ⟨u1, hu1⟩ : ∃ v0, vs 1 = v0 := ⟨_, rfl⟩
    obtain ⟨u2, hu2⟩ : ∃ v0, vs 2 = v0 := ⟨_, rfl⟩
    obtain ⟨u3, hu3⟩ : ∃ v0, vs 3 = v0 := ⟨_, rfl⟩
    obtain ⟨u4, hu4⟩ : ∃ v0, vs 4 = v0 := ⟨_, rfl⟩
    rw [hu0, hu1, hu2, hu3, hu4]
    clear hu0 hu1 hu2 hu3 hu4
    clear hI hl hU e6 h4 hB4 AS
    replace HBV : Hid (Below W2.heap.size W2 W) := b4
    clear b4 hg4
    obtain ⟨V3, hV3⟩ : ∃ V, V = W := ⟨_, rfl⟩
    subst hV3
    go_simp
    go_wp2_with fail
    have AS := Lib.hid (sizEk_stab V3.heap.size (.agg #[.int .i64 10, .int .i64 12, .slice (some ⟨A1, 0, none⟩) 2 ca1]) 1 1 998 1000)
    refine wp_region_invs (InvE V3.heap.size V3 (sizEk V3.heap.size (.agg #[.int .i64 10, .int .i64 12, .slice (some ⟨A1, 0, none⟩) 2 ca1]) 1 1 998 1000) 7) 8 (by kernel_rfl) (by kernel_rfl) (by kernel_rfl) (by rfl) ⟨(Below.refl _ _).drew, fun i h => by cases h⟩ ?step (by rfl) (by rfl) ?fin
    case step =>
      refine StepsI.cons ?_ (StepsI.cons ?_ (StepsI.cons ?_ (StepsI.cons ?_ (StepsI.cons ?_ (StepsI.cons ?_ (StepsI.cons ?_ (StepsI.cons ?_ StepsI.nil)))))))
      all_goals
        refine StepI.of ?_
        intro ls vs W K hI hl hw hU hK
        simp only [fillA, Act.put, List.setIfInBounds_toArray, List.set_cons_zero, List.set_cons_succ, Nat.zero_add, Nat.reduceAdd] at hK ⊢
        simp [waits, Region.binds] at hw
        have hC := hI.1
      · have hR := hx.out.bl (bl_call HBV.out hC (Nat.le_refl _))
        have k0 := hR.cell 0
        have k1 := hR.cell 1
        have k2 := hR.cell 2
        clear hR
        go_simp
        exact hK _ _ (hI.step AS.out (Below.refl _ _) hC.size (by decide) rfl)
      · go_simp
        refine (at7_any 1 1 W).mono ?_
        rintro e w' ⟨rfl, hb⟩
        exact hK _ _ (hI.step AS.out hb hC.size (by decide) rfl)
      · have h1 : vs 0 = _ := hI.2 0 (by simp [hw])
        have h3 : vs 1 = _ := hI.2 1 (by simp [hw])
        simp only [h1, h3] at hK ⊢
        go_simp
        refine (ksizes_any (s := exShop) (l := []) 1 1 W (HM.out.keep MouldR.good (Keeps.below (bl_call HBV.out hC (Nat.le_refl _)))) (SliceOf.nil _ _ _ _ _) hca1 rfl rfl).mono ?_
        rw [kn7_b]
        rintro e w' ⟨rfl, hb⟩
        exact hK _ _ (hI.step AS.out hb hC.size (by decide) rfl)
      · have h1 : vs 2 = _ := hI.2 2 (by simp [hw])
        simp only [h1] at hK ⊢
        go_simp
        exact hK _ _ (hI.step AS.out (Below.refl _ _) hC.size (by decide) rfl)
      · have h1 : vs 3 = _ := hI.2 3 (by simp [hw])
        simp only [h1] at hK ⊢
        go_simp
        exact hK _ _ (hI.step AS.out (Below.refl _ _) hC.size (by decide) rfl)
      · have h1 : vs 3 = _ := hI.2 3 (by simp [hw])
        simp only [h1] at hK ⊢
        go_simp
        exact hK _ _ (hI.step AS.out (Below.refl _ _) hC.size (by decide) rfl)
      · have h8 : ls 7 = false := (hU 7 _ rfl (by simp [waits, Region.binds])).1
        go_simp
        exact hK _ _ (hI.step AS.out (bl_alloc (Below.refl _ _) _ (Nat.le_refl _)) hC.size (by decide) ⟨_, hC.size, rfl, by rw [h8]; exact Blk.new _ _ _ rfl⟩)
      · have h1 : vs 4 = _ := hI.2 4 (by simp [hw])
        obtain ⟨g4, hg4, h4, hB4⟩ := hI.2 6 (by simp [hw])
        rw [hl] at hB4
        have z0 : W.cell? ⟨g4, 0, none⟩ = some (.int .i64 0) := hB4.cell 0
        have z1 : W.cell? ⟨g4, 1, none⟩ = some (.int .i64 0) := hB4.cell 1
        have fz0 := hB4.frozen 0
        have fz1 := hB4.frozen 1
        have hl4 := hB4.lt
        simp only [h1, h4] at hK ⊢
        go_simp
        refine hK undef _ ⟨bl_set (bl_set hC hg4 _) hg4 _, fun i hi => ?_⟩
        have hb8 : updB ls 7 7 = true := by unfold updB; rw [if_pos rfl]
        rw [hb8]
        match i, hi with
        | 0, hi => exact hI.2 0 hi
        | 1, hi => exact hI.2 1 hi
        | 2, hi => exact hI.2 2 hi
        | 3, hi => exact hI.2 3 hi
        | 4, hi => exact hI.2 4 hi
        | 5, hi => exact hI.2 5 hi
        | 6, _ => exact ⟨g4, hg4, h4, hB4.set2 _ _⟩
        | _ + 7, _ => trivial
    case fin =>
      intro ls vs W hI hl hU
      have e6 : vs 5 = _ := hI.2 5 (hl 5 (by decide))
      obtain ⟨g4, hg4, h4, hB4⟩ := hI.2 6 (hl 6 (by decide))
      rw [hl 7 (by decide)] at hB4
      have Sg4 : Hid (Blk W g4 23 #[.int .i64 998, .int .i64 1000]) := hB4
      have b4 := hI.1
      simp only [fillA, Act.put, List.setIfInBounds_toArray, List.set_cons_zero, List.set_cons_succ, Nat.zero_add, Nat.reduceAdd, e6, h4]
      obtain ⟨u0, hu0⟩ : ∃ v0, vs 0 = v0 := ⟨_, rfl⟩
      obtain ⟨u1, hu1⟩ : ∃ v0, vs 1 = v0 := ⟨_, rfl⟩
      obtain ⟨u2, hu2⟩ : ∃ v0, vs 2 = v0 := ⟨_, rfl⟩
      obtain ⟨u3, hu3⟩ : ∃ v0, vs 3 = v0 := ⟨_, rfl⟩
      obtain ⟨u4, hu4⟩ : ∃ v0, vs 4 = v0 := ⟨_, rfl⟩
      rw [hu0, hu1, hu2, hu3, hu4]
      clear hu0 hu1 hu2 hu3 hu4
      clear hI hl hU e6 h4 hB4 AS
      replace Sg2 : Hid (Blk W g2 23 #[.int .i64 988, .int .i64 992]) := Sg2.out.bl b4
      replace HBV : Hid (Below W2.heap.size W2 W) := bl_call HBV.out b4 (Nat.le_refl _)
      clear b4 hg4
      obtain ⟨V3b, hV3b⟩ : ∃ V, V = W := ⟨_, rfl⟩
      subst hV3b
      go_simp
      go_wp2_with fail
      have AS := Lib.hid (sizFk_stab V3b.heap.size (.agg #[.int .i64 10, .int .i64 12, .slice (some ⟨A1, 0, none⟩) 2 ca1]) 0 0 988 990)
      refine wp_region_invs (InvE V3b.heap.size V3b (sizFk V3b.heap.size (.agg #[.int .i64 10, .int .i64 12, .slice (some ⟨A1, 0, none⟩) 2 ca1]) 0 0 988 990) 8) 9 (by kernel_rfl) (by kernel_rfl) (by kernel_rfl) (by rfl) ⟨(Below.refl _ _).drew, fun i h => by cases h⟩ ?step (by rfl) (by rfl) ?fin
      case step =>
        refine StepsI.cons ?_ (StepsI.cons ?_ (StepsI.cons ?_ (StepsI.cons ?_ (StepsI.cons ?_ (StepsI.cons ?_ (StepsI.cons ?_ (StepsI.cons ?_ (StepsI.cons ?_ StepsI.nil))))))))
        all_goals
          refine StepI.of ?_
          intro ls vs W K hI hl hw hU hK
          simp only [fillA, Act.put, List.setIfInBounds_toArray, List.set_cons_zero, List.set_cons_succ, Nat.zero_add, Nat.reduceAdd] at hK ⊢
          simp [waits, Region.binds] at hw
          have hC := hI.1
        · have hR := hx.out.bl (bl_call HBV.out hC (Nat.le_refl _))
          have k0 := hR.cell 0
          have k1 := hR.cell 1
          have k2 := hR.cell 2
          clear hR
          go_simp
          exact hK _ _ (hI.step AS.out (Below.refl _ _) hC.size (by decide) rfl)
        · go_simp
          refine (seen32_any W).mono ?_
          rintro e w' ⟨⟨v, rfl, A, c, hv, hS⟩, hb⟩
          have hsz := hC.size
          exact hK _ _ (hI.step AS.out hb hC.size (by decide) (fun _ => ⟨A, c, hv, hS.mono SeenCR.good (fun k h => by omega)⟩))
        · go_simp
          refine (at7_any 0 0 W).mono ?_
          rintro e w' ⟨rfl, hb⟩
          exact hK _ _ (hI.step AS.out hb hC.size (by decide) rfl)
        · have h8 : ls 8 = false := (hU 8 _ rfl (by simp [waits, Region.binds])).1
          have h1 : vs 0 = _ := hI.2 0 (by simp [hw])
          obtain ⟨Aq, cq, h2, hS⟩ := hI.2 1 (by simp [hw]) h8
          have h3 : vs 2 = _ := hI.2 2 (by simp [hw])
          simp only [h1, h2, h3] at hK ⊢
          go_simp
          refine (ksizes_any (s := exShop) (l := exSeen7) 0 0 W (HM.out.keep MouldR.good (Keeps.below (bl_call HBV.out hC (Nat.le_refl _)))) (hS.mono SeenCR.good (fun _ _ => trivial)) hca1 rfl rfl).mono ?_
          rw [kn7_c]
          rintro e w' ⟨rfl, hb⟩
          exact hK _ _ (hI.step AS.out hb hC.size (by decide) rfl)
        · have h1 : vs 3 = _ := hI.2 3 (by simp [hw])
          simp only [h1] at hK ⊢
          go_simp
          exact hK _ _ (hI.step AS.out (Below.refl _ _) hC.size (by decide) rfl)
        · have h1 : vs 4 = _ := hI.2 4 (by simp [hw])
          simp only [h1] at hK ⊢
          go_simp
          exact hK _ _ (hI.step AS.out (Below.refl _ _) hC.size (by decide) rfl)
        · have h1 : vs 4 = _ := hI.2 4 (by simp [hw])
          simp only [h1] at hK ⊢
          go_simp
          exact hK _ _ (hI.step AS.out (Below.refl _ _) hC.size (by decide) rfl)
        · have h8 : ls 8 = false := (hU 8 _ rfl (by simp [waits, Region.binds])).1
          go_simp
          exact hK _ _ (hI.step AS.out (bl_alloc (Below.refl _ _) _ (Nat.le_refl _)) hC.size (by decide) ⟨_, hC.size, rfl, by rw [h8]; exact Blk.new _ _ _ rfl⟩)
        · have h1 : vs 5 = _ := hI.2 5 (by simp [hw])
          obtain ⟨g4, hg4, h4, hB4⟩ := hI.2 7 (by simp [hw])
          rw [hl] at hB4
          have z0 : W.cell? ⟨g4, 0, none⟩ = some (.int .i64 0) := hB4.cell 0
          have z1 : W.cell? ⟨g4, 1, none⟩ = some (.int .i64 0) := hB4.cell 1
          have fz0 := hB4.frozen 0
          have fz1 := hB4.frozen 1
          have hl4 := hB4.lt
          simp only [h1, h4] at hK ⊢
          go_simp
          refine hK undef _ ⟨bl_set (bl_set hC hg4 _) hg4 _, fun i hi => ?_⟩
          have hb8 : updB ls 8 8 = true := by unfold updB; rw [if_pos rfl]
          rw [hb8]
          match i, hi with
          | 0, hi => exact hI.2 0 hi
          | 1, _ => exact fun e => by cases e
          | 2, hi => exact hI.2 2 hi
          | 3, hi => exact hI.2 3 hi
          | 4, hi => exact hI.2 4 hi
          | 5, hi => exact hI.2 5 hi
          | 6, hi => exact hI.2 6 hi
          | 7, _ => exact ⟨g4, hg4, h4, hB4.set2 _ _⟩
          | _ + 8, _ => trivial
      case fin =>
        intro ls vs W hI hl hU
        have e6 : vs 6 = _ := hI.2 6 (hl 6 (by decide))
        obtain ⟨g6, hg4, h4, hB4⟩ := hI.2 7 (hl 7 (by decide))
        rw [hl 8 (by decide)] at hB4
        have Sg6 : Hid (Blk W g6 23 #[.int .i64 988, .int .i64 990]) := hB4
        have b4 := hI.1
        simp only [fillA, Act.put, List.setIfInBounds_toArray, List.set_cons_zero, List.set_cons_succ, Nat.zero_add, Nat.reduceAdd, e6, h4]
        obtain ⟨u0, hu0⟩ : ∃ v0, vs 0 = v0 := ⟨_, rfl⟩
        obtain ⟨u1, hu1⟩ : ∃ v0, vs 1 = v0 := ⟨_, rfl⟩
        obtain ⟨u2, hu2⟩ : ∃ v0, vs 2 = v0 := ⟨_, rfl⟩
        obtain ⟨u3, hu3⟩ : ∃ v0, vs 3 = v0 := ⟨_, rfl⟩
        obtain ⟨u4, hu4⟩ : ∃ v0, vs 4 = v0 := ⟨_, rfl⟩
        obtain ⟨u5, hu5⟩ : ∃ v0, vs 5 = v0 := ⟨_, rfl⟩
        rw [hu0, hu1, hu2, hu3, hu4, hu5]
        clear hu0 hu1 hu2 hu3 hu4 hu5
        clear hI hl hU e6 h4 hB4 AS
        replace Sg2 : Hid (Blk W g2 23 #[.int .i64 988, .int .i64 992]) := Sg2.out.bl b4
        replace Sg4 : Hid (Blk W g4 23 #[.int .i64 998, .int .i64 1000]) := Sg4.out.bl b4
        replace HBV : Hid (Below W2.heap.size W2 W) := bl_call HBV.out b4 (Nat.le_refl _)
        clear b4 hg4
        obtain ⟨V4, hV4⟩ : ∃ V, V = W := ⟨_, rfl⟩
        subst hV4
        go_simp
        have HMV : Hid (∀ V, Below V4.heap.size V4 V → Moulds (fun _ => True) V (some ⟨A1, 0, none⟩) 2 exShop.moulds) := fun V hb => HM.out.keep MouldR.good (Keeps.below (bl_call HBV.out hb (Nat.le_refl _)))
        have kk : Hid (∀ V, Below V4.heap.size V4 V → V.cell? ⟨gS, 0, none⟩ = some (.int .i64 10) ∧ V.cell? ⟨gS, 1, none⟩ = some (.int .i64 12) ∧ V.cell? ⟨gS, 2, none⟩ = some (.slice (some ⟨A1, 0, none⟩) 2 ca1) ∧ V.cell? ⟨g2, 0, none⟩ = some (.int .i64 988) ∧ V.cell? ⟨g2, 1, none⟩ = some (.int .i64 992) ∧ V.cell? ⟨g4, 0, none⟩ = some (.int .i64 998) ∧ V.cell? ⟨g4, 1, none⟩ = some (.int .i64 1000) ∧ V.cell? ⟨g6, 0, none⟩ = some (.int .i64 988) ∧ V.cell? ⟨g6, 1, none⟩ = some (.int .i64 990)) := fun V hb => by
          have hR := hx.out.bl (bl_call HBV.out hb (Nat.le_refl _))
          exact ⟨hR.cell 0, hR.cell 1, hR.cell 2, (Sg2.out.bl hb).c0, (Sg2.out.bl hb).c1, (Sg4.out.bl hb).c0, (Sg4.out.bl hb).c1, (Sg6.out.bl hb).c0, (Sg6.out.bl hb).c1⟩
        replace HBV : Hid (Below w.heap.size w V4) := bl_call HB2.out HBV.out (Nat.le_refl _)
        clear hx hx0 HM HB2 Sg4 Sg2 Sg6
        obtain ⟨xk0, xk1, xk2, _, _, _, _, _, _⟩ := kk.out V4 (Below.refl _ _)
        go_wp2_with fail
        clear xk0 xk1 xk2
        refine (kshrinks_any (s := exShop) (l := []) V4 (HMV.out V4 (Below.refl _ _)) (SliceOf.nil _ _ _ _ _) hca1 rfl rfl).mono ?_
        rw [kn7_k]
        rintro e V5 ⟨⟨r8_A, r8_n, r8_c, rfl, r8_h⟩, hb5⟩
        have H_r8 : Hid (∀ V, Below V5.heap.size V5 V → Ints (fun _ => True) V r8_A r8_n [10, 11, 12]) := fun V hb => r8_h.keep IntR.good (Keeps.below hb)
        have HL5 : Hid (Below V4.heap.size V4 V5) := hb5
        clear r8_h hb5
        go_wp2_with fail
        have HC6 : Hid (Below V4.heap.size V4 V5) := HL5.out
        refine wp_frameT ?_
        intro a0 ha0
        have tb1 : a0.tmps[1]? = some (.pointer (some ⟨gS, 0, none⟩)) := by rw [ha0]; kernel_rfl
        have hsz : a0.tmps.size = 143 := by rw [ha0]; kernel_rfl
        refine wp_region_list (fun W => Below V5.heap.size V5 W) (fun w w' => Below w.heap.size w w')
          [isV (.agg #[.int .i64 10, .int .i64 12, .slice (some ⟨A1, 0, none⟩) 2 ca1]), IsSeen7 V5.heap.size, isV (.agg #[.int .i64 990, .int .i64 1000]), PlsV ([(0, 1), (0, 2), (0, 3), (1, 0), (1, 1)], 0), PlsV ([(0, 1), (0, 2), (0, 3), (1, 0), (1, 1)], 0), SlP [(0, 1), (0, 2), (0, 3), (1, 0), (1, 1)], isV (.int .i64 0), SlP [(0, 1), (0, 2), (0, 3), (1, 0), (1, 1)], isV (.int .i64 0)]
          (by kernel_rfl) (by kernel_rfl) (by kernel_rfl) (by simp) (by simp) (Below.refl _ _).drew ?stab6 ?step6 ?fin6
        case stab6 => exact (StabL.is (StabL.cons (fun v W V hC hX h => h.bl hX) (StabL.is (StabL.cons (fun v W V hC hX h => h.bl hX) (StabL.cons (fun v W V hC hX h => h.bl hX) (StabL.cons (fun v W V hC hX h => h.bl hX) (StabL.is (StabL.cons (fun v W V hC hX h => h.bl hX) (StabL.is StabL.nil)))))))))
        case step6 =>
          refine StepsL.isA ?_ (StepsL.consA ?_ (StepsL.isA ?_ (StepsL.consA ?_ (StepsL.consA ?_ (StepsL.consA ?_ (StepsL.isA ?_ (StepsL.consA ?_ (StepsL.isA ?_ StepsL.nil))))))))
          · -- 0
            intro vs a W K ha hC hD hU hK
            have r1 : a.tmps[1]? = some (.pointer (some ⟨gS, 0, none⟩)) := by rw [ha, fillA_base0 (by kernel_rfl)]; exact tb1
            clear ha hU hD ha0
            rw [if_pos (by rfl)]
            obtain ⟨k0, k1, k2, k3, k4, k5, k6, k7, k8⟩ := kk.out W (bl_call HC6.out hC (Nat.le_refl _))
            go_simp
            exact hK _ hC (Below.refl _ _)
          · -- 1
            intro vs a W K ha hC hD hU hK
            clear ha hU hD ha0
            rw [if_pos (by rfl)]
            go_simp
            refine (seen32_any W).mono ?_
            rintro e w' ⟨⟨v, rfl, A, c, hv, hS⟩, hb⟩
            have hsz := hC.size
            exact hK _ _ (bl_call hC hb (Nat.le_refl _)) hb ⟨A, c, hv, hS.mono SeenCR.good (fun k h => by omega)⟩
          · -- 2
            intro vs a W K ha hC hD hU hK
            clear ha hU hD ha0
            rw [if_pos (by rfl)]
            go_simp
            refine (span7_any 990 1000 W).mono ?_
            rintro e w' ⟨rfl, hb⟩
            exact hK _ (bl_call hC hb (Nat.le_refl _)) hb
          · -- 3
            intro vs a W K ha hC hD hU hK
            have r43 : a.tmps[43]? = some (vs 0) := by rw [ha]; exact fillA_get0 (j := 0) (by kernel_rfl) (by rw [hsz]; decide)
            have q0 : vs 0 = .agg #[.int .i64 10, .int .i64 12, .slice (some ⟨A1, 0, none⟩) 2 ca1] := hD 0 (by simp [waits, Region.binds])
            rw [q0] at r43
            have r44 : a.tmps[44]? = some (vs 1) := by rw [ha]; exact fillA_get0 (j := 1) (by kernel_rfl) (by rw [hsz]; decide)
            have P1 : IsSeen7 V5.heap.size (vs 1) W := hD 1 (by simp [waits, Region.binds])
            obtain ⟨B44, d44, e44, hI44⟩ := P1
            rw [e44] at r44
            have r45 : a.tmps[45]? = some (vs 2) := by rw [ha]; exact fillA_get0 (j := 2) (by kernel_rfl) (by rw [hsz]; decide)
            have q2 : vs 2 = .agg #[.int .i64 990, .int .i64 1000] := hD 2 (by simp [waits, Region.binds])
            rw [q2] at r45
            clear ha hU hD ha0
            rw [if_pos (by rfl)]
            go_simp
            refine (kFits_any (s := exShop) (l := exSeen7) 990 1000 W (HMV.out W (bl_call HC6.out hC (Nat.le_refl _))) (hI44.mono SeenCR.good (fun _ _ => trivial)) hca1 rfl rfl).mono ?_
            rw [kn7_l]
            rintro e w' ⟨hT, hb⟩
            obtain ⟨v, rfl, hv⟩ := PlsV.of hT
            exact hK _ _ (bl_call hC hb (Nat.le_refl _)) hb hv
          · -- 4
            intro vs a W K ha hC hD hU hK
            have r46 : a.tmps[46]? = some (vs 3) := by rw [ha]; exact fillA_get0 (j := 3) (by kernel_rfl) (by rw [hsz]; decide)
            have P3 : PlsV ([(0, 1), (0, 2), (0, 3), (1, 0), (1, 1)], 0) (vs 3) W := hD 3 (by simp [waits, Region.binds])
            obtain ⟨A46, n46, c46, e46, hI46⟩ := P3
            rw [e46] at r46
            clear ha hU hD ha0
            rw [if_pos (by rfl)]
            go_simp
            exact hK _ _ hC (Below.refl _ _) (by first | exact ⟨_, _, _, rfl, hI46⟩ | exact ⟨_, _, _, _, _, _, rfl, hI46, hJ46⟩)
          · -- 5
            intro vs a W K ha hC hD hU hK
            have r42 : a.tmps[42]? = some (vs 4) := by rw [ha]; exact fillA_get0 (j := 4) (by kernel_rfl) (by rw [hsz]; decide)
            have P4 : PlsV ([(0, 1), (0, 2), (0, 3), (1, 0), (1, 1)], 0) (vs 4) W := hD 4 (by simp [waits, Region.binds])
            obtain ⟨A42, n42, c42, e42, hI42⟩ := P4
            rw [e42] at r42
            clear ha hU hD ha0
            rw [if_pos (by rfl)]
            go_simp
            exact hK _ _ hC (Below.refl _ _) ⟨_, _, _, rfl, hI42⟩
          · -- 6
            intro vs a W K ha hC hD hU hK
            have r42 : a.tmps[42]? = some (vs 4) := by rw [ha]; exact fillA_get0 (j := 4) (by kernel_rfl) (by rw [hsz]; decide)
            have P4 : PlsV ([(0, 1), (0, 2), (0, 3), (1, 0), (1, 1)], 0) (vs 4) W := hD 4 (by simp [waits, Region.binds])
            obtain ⟨A42, n42, c42, e42, hI42⟩ := P4
            rw [e42] at r42
            clear ha hU hD ha0
            rw [if_pos (by rfl)]
            go_simp
            exact hK _ hC (Below.refl _ _)
          · -- 7
            intro vs a W K ha hC hD hU hK
            have r47 : a.tmps[47]? = some (vs 5) := by rw [ha]; exact fillA_get0 (j := 5) (by kernel_rfl) (by rw [hsz]; decide)
            have P5 : SlP [(0, 1), (0, 2), (0, 3), (1, 0), (1, 1)] (vs 5) W := hD 5 (by simp [waits, Region.binds])
            obtain ⟨A47, n47, c47, e47, hI47⟩ := P5
            rw [e47] at r47
            clear ha hU hD ha0
            rw [if_pos (by rfl)]
            go_simp
            exact hK _ _ hC (Below.refl _ _) (by first | exact ⟨_, _, _, rfl, hI47⟩ | exact ⟨_, _, _, _, _, _, rfl, hI47, hJ47⟩)
          · -- 8
            intro vs a W K ha hC hD hU hK
            have r48 : a.tmps[48]? = some (vs 6) := by rw [ha]; exact fillA_get0 (j := 6) (by kernel_rfl) (by rw [hsz]; decide)
            have q6 : vs 6 = .int .i64 0 := hD 6 (by simp [waits, Region.binds])
            rw [q6] at r48
            clear ha hU hD ha0
            rw [if_pos (by rfl)]
            go_simp
            exact hK _ hC (Below.refl _ _)
        case fin6 =>
          refine Fin1.none (Nat.le_refl _) ?_
          intro vs W a1 hC hE ha
          have hE0 := hE
          have E7 : SlP [(0, 1), (0, 2), (0, 3), (1, 0), (1, 1)] (vs 7) W := hE 7 (by simp)
          obtain ⟨r10_A, r10_n, r10_c, r10_e, r10_h⟩ := E7
          have H_r10 := Lib.hid r10_h
          have n11_e : vs 8 = .int .i64 0 := hE 8 (by simp)
          rw [ha, ha0]
          clear ha ha0 hsz tb1
          simp only [fillA, Act.put, List.setIfInBounds_toArray, List.set_cons_zero, List.set_cons_succ, Nat.zero_add, Nat.reduceAdd, r10_e, n11_e]
          obtain ⟨u0, hu0⟩ : ∃ v0, vs 0 = v0 := ⟨_, rfl⟩
          obtain ⟨u1, hu1⟩ : ∃ v0, vs 1 = v0 := ⟨_, rfl⟩
          obtain ⟨u2, hu2⟩ : ∃ v0, vs 2 = v0 := ⟨_, rfl⟩
          obtain ⟨u3, hu3⟩ : ∃ v0, vs 3 = v0 := ⟨_, rfl⟩
          obtain ⟨u4, hu4⟩ : ∃ v0, vs 4 = v0 := ⟨_, rfl⟩
          obtain ⟨u5, hu5⟩ : ∃ v0, vs 5 = v0 := ⟨_, rfl⟩
          obtain ⟨u6, hu6⟩ : ∃ v0, vs 6 = v0 := ⟨_, rfl⟩
          rw [hu0, hu1, hu2, hu3, hu4, hu5, hu6]
          clear hu0 hu1 hu2 hu3 hu4 hu5 hu6
          have HL6 : Hid (Below V4.heap.size V4 W) := bl_call HC6.out hC (Nat.le_refl _)
          replace H_r10 : Hid (∀ V, Below W.heap.size W V → Pls (fun _ => True) V r10_A r10_n [(0, 1), (0, 2), (0, 3), (1, 0), (1, 1)]) := fun V hb => H_r10.out.keep PlR.good (Keeps.below hb)
          clear r10_h
          have hCk := Lib.hid hC
          clear hE hE0 hC HC6 r10_e n11_e
          replace H_r8 : Hid (∀ V, Below W.heap.size W V → Ints (fun _ => True) V r8_A r8_n [10, 11, 12]) := fun V hb => H_r8.out V (bl_call hCk.out hb (Nat.le_refl _))
          clear hCk
          obtain ⟨V6, hV6⟩ : ∃ V, V = W := ⟨_, rfl⟩
          subst hV6
          go_simp
          go_wp2_with fail
          have HC7 : Hid (Below V4.heap.size V4 V6) := HL6.out
          refine wp_frameT ?_
          intro a0 ha0
          have tb1 : a0.tmps[1]? = some (.pointer (some ⟨gS, 0, none⟩)) := by rw [ha0]; kernel_rfl
          have hsz : a0.tmps.size = 143 := by rw [ha0]; kernel_rfl
          refine wp_region_list (fun W => Below V6.heap.size V6 W) (fun w w' => Below w.heap.size w w')
            [isV (.agg #[.int .i64 10, .int .i64 12, .slice (some ⟨A1, 0, none⟩) 2 ca1]), IsSeen7 V6.heap.size, isV (.agg #[.int .i64 990, .int .i64 1000]), isV (.agg #[.int .i64 998, .int .i64 999]), IsPairsV V6.heap.size [(990, 1000), (998, 999)], PlanV ([(1, 0), (1, 1)], [1], 0), PlanV ([(1, 0), (1, 1)], [1], 0), SlP [(1, 0), (1, 1)], SlI [1], isV (.int .i64 0), SlP [(1, 0), (1, 1)], SlI [1], isV (.int .i64 0)]
            (by kernel_rfl) (by kernel_rfl) (by kernel_rfl) (by simp) (by simp) (Below.refl _ _).drew ?stab7 ?step7 ?fin7
          case stab7 => exact (StabL.is (StabL.cons (fun v W V hC hX h => h.bl hX) (StabL.is (StabL.is (StabL.cons (fun v W V hC hX h => h.bl hX) (StabL.cons (fun v W V hC hX h => h.bl hX) (StabL.cons (fun v W V hC hX h => h.bl hX) (StabL.cons (fun v W V hC hX h => h.bl hX) (StabL.cons (fun v W V hC hX h => h.bl hX) (StabL.is (StabL.cons (fun v W V hC hX h => h.bl hX) (StabL.cons (fun v W V hC hX h => h.bl hX) (StabL.is StabL.nil)))))))))))))
          case step7 =>
            refine StepsL.isA ?_ (StepsL.consA ?_ (StepsL.isA ?_ (StepsL.isA ?_ (StepsL.consA ?_ (StepsL.consA ?_ (StepsL.consA ?_ (StepsL.consA ?_ (StepsL.consA ?_ (StepsL.isA ?_ (StepsL.consA ?_ (StepsL.consA ?_ (StepsL.isA ?_ StepsL.nil))))))))))))
            · -- 0
              intro vs a W K ha hC hD hU hK
              have r1 : a.tmps[1]? = some (.pointer (some ⟨gS, 0, none⟩)) := by rw [ha, fillA_base0 (by kernel_rfl)]; exact tb1
              clear ha hU hD ha0
              rw [if_pos (by rfl)]
              obtain ⟨k0, k1, k2, k3, k4, k5, k6, k7, k8⟩ := kk.out W (bl_call HC7.out hC (Nat.le_refl _))
              go_simp
              exact hK _ hC (Below.refl _ _)
            · -- 1
              intro vs a W K ha hC hD hU hK
              clear ha hU hD ha0
              rw [if_pos (by rfl)]
              go_simp
              refine (seen32_any W).mono ?_
              rintro e w' ⟨⟨v, rfl, A, c, hv, hS⟩, hb⟩
              have hsz := hC.size
              exact hK _ _ (bl_call hC hb (Nat.le_refl _)) hb ⟨A, c, hv, hS.mono SeenCR.good (fun k h => by omega)⟩
            · -- 2
              intro vs a W K ha hC hD hU hK
              clear ha hU hD ha0
              rw [if_pos (by rfl)]
              go_simp
              refine (span7_any 990 1000 W).mono ?_
              rintro e w' ⟨rfl, hb⟩
              exact hK _ (bl_call hC hb (Nat.le_refl _)) hb
            · -- 3
              intro vs a W K ha hC hD hU hK
              clear ha hU hD ha0
              rw [if_pos (by rfl)]
              go_simp
              refine (span7_any 998 999 W).mono ?_
              rintro e w' ⟨rfl, hb⟩
              exact hK _ (bl_call hC hb (Nat.le_refl _)) hb
            · -- 4
              intro vs a W K ha hC hD hU hK
              have r52 : a.tmps[52]? = some (vs 2) := by rw [ha]; exact fillA_get0 (j := 2) (by kernel_rfl) (by rw [hsz]; decide)
              have q2 : vs 2 = .agg #[.int .i64 990, .int .i64 1000] := hD 2 (by simp [waits, Region.binds])
              rw [q2] at r52
              have r53 : a.tmps[53]? = some (vs 3) := by rw [ha]; exact fillA_get0 (j := 3) (by kernel_rfl) (by rw [hsz]; decide)
              have q3 : vs 3 = .agg #[.int .i64 998, .int .i64 999] := hD 3 (by simp [waits, Region.binds])
              rw [q3] at r53
              clear ha hU hD ha0
              rw [if_pos (by rfl)]
              go_simp
              exact hK _ _ (bl_alloc hC _ (Nat.le_refl _)) (bl_alloc (Below.refl _ _) _ (Nat.le_refl _)) (IsPairsV.new [(990, 1000), (998, 999)] _ (by rfl) (by decide) hC.size)
            · -- 5
              intro vs a W K ha hC hD hU hK
              have r50 : a.tmps[50]? = some (vs 0) := by rw [ha]; exact fillA_get0 (j := 0) (by kernel_rfl) (by rw [hsz]; decide)
              have q0 : vs 0 = .agg #[.int .i64 10, .int .i64 12, .slice (some ⟨A1, 0, none⟩) 2 ca1] := hD 0 (by simp [waits, Region.binds])
              rw [q0] at r50
              have r51 : a.tmps[51]? = some (vs 1) := by rw [ha]; exact fillA_get0 (j := 1) (by kernel_rfl) (by rw [hsz]; decide)
              have P1 : IsSeen7 V6.heap.size (vs 1) W := hD 1 (by simp [waits, Region.binds])
              obtain ⟨B51, d51, e51, hI51⟩ := P1
              rw [e51] at r51
              have r54 : a.tmps[54]? = some (vs 4) := by rw [ha]; exact fillA_get0 (j := 4) (by kernel_rfl) (by rw [hsz]; decide)
              have P4 : IsPairsV V6.heap.size [(990, 1000), (998, 999)] (vs 4) W := hD 4 (by simp [waits, Region.binds])
              obtain ⟨B54, d54, e54, hI54⟩ := P4
              rw [e54] at r54
              clear ha hU hD ha0
              rw [if_pos (by rfl)]
              go_simp
              refine (kplan_any (s := exShop) (l := exSeen7) (p := [(990, 1000), (998, 999)]) W (HMV.out W (bl_call HC7.out hC (Nat.le_refl _))) (hI51.mono SeenCR.good (fun _ _ => trivial)) (hI54.mono PairR.good (fun _ _ => trivial)) hca1 rfl rfl).mono ?_
              rw [kn7_p]
              rintro e w' ⟨hT, hb⟩
              obtain ⟨v, rfl, hv⟩ := PlanV.of hT
              exact hK _ _ (bl_call hC hb (Nat.le_refl _)) hb hv
            · -- 6
              intro vs a W K ha hC hD hU hK
              have r55 : a.tmps[55]? = some (vs 5) := by rw [ha]; exact fillA_get0 (j := 5) (by kernel_rfl) (by rw [hsz]; decide)
              have P5 : PlanV ([(1, 0), (1, 1)], [1], 0) (vs 5) W := hD 5 (by simp [waits, Region.binds])
              obtain ⟨A55, n55, c55, B55, m55, d55, e55, hI55, hJ55⟩ := P5
              rw [e55] at r55
              clear ha hU hD ha0
              rw [if_pos (by rfl)]
              go_simp
              exact hK _ _ hC (Below.refl _ _) (by first | exact ⟨_, _, _, rfl, hI55⟩ | exact ⟨_, _, _, _, _, _, rfl, hI55, hJ55⟩)
            · -- 7
              intro vs a W K ha hC hD hU hK
              have r49 : a.tmps[49]? = some (vs 6) := by rw [ha]; exact fillA_get0 (j := 6) (by kernel_rfl) (by rw [hsz]; decide)
              have P6 : PlanV ([(1, 0), (1, 1)], [1], 0) (vs 6) W := hD 6 (by simp [waits, Region.binds])
              obtain ⟨A49, n49, c49, B49, m49, d49, e49, hI49, hJ49⟩ := P6
              rw [e49] at r49
              clear ha hU hD ha0
              rw [if_pos (by rfl)]
              go_simp
              exact hK _ _ hC (Below.refl _ _) ⟨_, _, _, rfl, hI49⟩
            · -- 8
              intro vs a W K ha hC hD hU hK
              have r49 : a.tmps[49]? = some (vs 6) := by rw [ha]; exact fillA_get0 (j := 6) (by kernel_rfl) (by rw [hsz]; decide)
              have P6 : PlanV ([(1, 0), (1, 1)], [1], 0) (vs 6) W := hD 6 (by simp [waits, Region.binds])
              obtain ⟨A49, n49, c49, B49, m49, d49, e49, hI49, hJ49⟩ := P6
              rw [e49] at r49
              clear ha hU hD ha0
              rw [if_pos (by rfl)]
              go_simp
              exact hK _ _ hC (Below.refl _ _) ⟨_, _, _, rfl, hJ49⟩
            · -- 9
              intro vs a W K ha hC hD hU hK
              have r49 : a.tmps[49]? = some (vs 6) := by rw [ha]; exact fillA_get0 (j := 6) (by kernel_rfl) (by rw [hsz]; decide)
              have P6 : PlanV ([(1, 0), (1, 1)], [1], 0) (vs 6) W := hD 6 (by simp [waits, Region.binds])
              obtain ⟨A49, n49, c49, B49, m49, d49, e49, hI49, hJ49⟩ := P6
              rw [e49] at r49
              clear ha hU hD ha0
              rw [if_pos (by rfl)]
              go_simp
              exact hK _ hC (Below.refl _ _)
            · -- 10
              intro vs a W K ha hC hD hU hK
              have r56 : a.tmps[56]? = some (vs 7) := by rw [ha]; exact fillA_get0 (j := 7) (by kernel_rfl) (by rw [hsz]; decide)
              have P7 : SlP [(1, 0), (1, 1)] (vs 7) W := hD 7 (by simp [waits, Region.binds])
              obtain ⟨A56, n56, c56, e56, hI56⟩ := P7
              rw [e56] at r56
              clear ha hU hD ha0
              rw [if_pos (by rfl)]
              go_simp
              exact hK _ _ hC (Below.refl _ _) (by first | exact ⟨_, _, _, rfl, hI56⟩ | exact ⟨_, _, _, _, _, _, rfl, hI56, hJ56⟩)
            · -- 11
              intro vs a W K ha hC hD hU hK
              have r57 : a.tmps[57]? = some (vs 8) := by rw [ha]; exact fillA_get0 (j := 8) (by kernel_rfl) (by rw [hsz]; decide)
              have P8 : SlI [1] (vs 8) W := hD 8 (by simp [waits, Region.binds])
              obtain ⟨A57, n57, c57, e57, hI57⟩ := P8
              rw [e57] at r57
              clear ha hU hD ha0
              rw [if_pos (by rfl)]
              go_simp
              exact hK _ _ hC (Below.refl _ _) (by first | exact ⟨_, _, _, rfl, hI57⟩ | exact ⟨_, _, _, _, _, _, rfl, hI57, hJ57⟩)
            · -- 12
              intro vs a W K ha hC hD hU hK
              have r58 : a.tmps[58]? = some (vs 9) := by rw [ha]; exact fillA_get0 (j := 9) (by kernel_rfl) (by rw [hsz]; decide)
              have q9 : vs 9 = .int .i64 0 := hD 9 (by simp [waits, Region.binds])
              rw [q9] at r58
              clear ha hU hD ha0
              rw [if_pos (by rfl)]
              go_simp
              exact hK _ hC (Below.refl _ _)
          case fin7 =>
            refine Fin1.none (Nat.le_refl _) ?_
            intro vs W a1 hC hE ha
            have hE0 := hE
            have E10 : SlP [(1, 0), (1, 1)] (vs 10) W := hE 10 (by simp)
            obtain ⟨r12_A, r12_n, r12_c, r12_e, r12_h⟩ := E10
            have H_r12 := Lib.hid r12_h
            have E11 : SlI [1] (vs 11) W := hE 11 (by simp)
            obtain ⟨r13_A, r13_n, r13_c, r13_e, r13_h⟩ := E11
            have H_r13 := Lib.hid r13_h
            have n14_e : vs 12 = .int .i64 0 := hE 12 (by simp)
            rw [ha, ha0]
            clear ha ha0 hsz tb1
            simp only [fillA, Act.put, List.setIfInBounds_toArray, List.set_cons_zero, List.set_cons_succ, Nat.zero_add, Nat.reduceAdd, r12_e, r13_e, n14_e]
            obtain ⟨u0, hu0⟩ : ∃ v0, vs 0 = v0 := ⟨_, rfl⟩
            obtain ⟨u1, hu1⟩ : ∃ v0, vs 1 = v0 := ⟨_, rfl⟩
            obtain ⟨u2, hu2⟩ : ∃ v0, vs 2 = v0 := ⟨_, rfl⟩
            obtain ⟨u3, hu3⟩ : ∃ v0, vs 3 = v0 := ⟨_, rfl⟩
            obtain ⟨u4, hu4⟩ : ∃ v0, vs 4 = v0 := ⟨_, rfl⟩
            obtain ⟨u5, hu5⟩ : ∃ v0, vs 5 = v0 := ⟨_, rfl⟩
            obtain ⟨u6, hu6⟩ : ∃ v0, vs 6 = v0 := ⟨_, rfl⟩
            obtain ⟨u7, hu7⟩ : ∃ v0, vs 7 = v0 := ⟨_, rfl⟩
            obtain ⟨u8, hu8⟩ : ∃ v0, vs 8 = v0 := ⟨_, rfl⟩
            obtain ⟨u9, hu9⟩ : ∃ v0, vs 9 = v0 := ⟨_, rfl⟩
            rw [hu0, hu1, hu2, hu3, hu4, hu5, hu6, hu7, hu8, hu9]
            clear hu0 hu1 hu2 hu3 hu4 hu5 hu6 hu7 hu8 hu9
            have HL7 : Hid (Below V4.heap.size V4 W) := bl_call HC7.out hC (Nat.le_refl _)
            replace H_r12 : Hid (∀ V, Below W.heap.size W V → Pls (fun _ => True) V r12_A r12_n [(1, 0), (1, 1)]) := fun V hb => H_r12.out.keep PlR.good (Keeps.below hb)
            clear r12_h
            replace H_r13 : Hid (∀ V, Below W.heap.size W V → Ints (fun _ => True) V r13_A r13_n [1]) := fun V hb => H_r13.out.keep IntR.good (Keeps.below hb)
            clear r13_h
            have hCk := Lib.hid hC
            clear hE hE0 hC HC7 r12_e r13_e n14_e
            replace H_r8 : Hid (∀ V, Below W.heap.size W V → Ints (fun _ => True) V r8_A r8_n [10, 11, 12]) := fun V hb => H_r8.out V (bl_call hCk.out hb (Nat.le_refl _))
            replace H_r10 : Hid (∀ V, Below W.heap.size W V → Pls (fun _ => True) V r10_A r10_n [(0, 1), (0, 2), (0, 3), (1, 0), (1, 1)]) := fun V hb => H_r10.out V (bl_call hCk.out hb (Nat.le_refl _))
            clear hCk
            obtain ⟨V7, hV7⟩ : ∃ V, V = W := ⟨_, rfl⟩
            subst hV7
            go_simp
            go_wp2_with fail
            have HC8 : Hid (Below V4.heap.size V4 V7) := HL7.out
            refine wp_frameT ?_
            intro a0 ha0
            have tb1 : a0.tmps[1]? = some (.pointer (some ⟨gS, 0, none⟩)) := by rw [ha0]; kernel_rfl
            have hsz : a0.tmps.size = 143 := by rw [ha0]; kernel_rfl
            refine wp_region_list (fun W => Below V7.heap.size V7 W) (fun w w' => Below w.heap.size w w')
              [isV (.agg #[.int .i64 10, .int .i64 12, .slice (some ⟨A1, 0, none⟩) 2 ca1]), isV (.agg #[.int .i64 990, .int .i64 1000]), isV (.agg #[.int .i64 980, .int .i64 985]), IsPairsV V7.heap.size [(990, 1000), (980, 985)], IntsV ([1], 0), IntsV ([1], 0), SlI [1], isV (.int .i64 0), SlI [1], isV (.int .i64 0)]
              (by kernel_rfl) (by kernel_rfl) (by kernel_rfl) (by simp) (by simp) (Below.refl _ _).drew ?stab8 ?step8 ?fin8
            case stab8 => exact (StabL.is (StabL.is (StabL.is (StabL.cons (fun v W V hC hX h => h.bl hX) (StabL.cons (fun v W V hC hX h => h.bl hX) (StabL.cons (fun v W V hC hX h => h.bl hX) (StabL.cons (fun v W V hC hX h => h.bl hX) (StabL.is (StabL.cons (fun v W V hC hX h => h.bl hX) (StabL.is StabL.nil))))))))))
            case step8 =>
              refine StepsL.isA ?_ (StepsL.isA ?_ (StepsL.isA ?_ (StepsL.consA ?_ (StepsL.consA ?_ (StepsL.consA ?_ (StepsL.consA ?_ (StepsL.isA ?_ (StepsL.consA ?_ (StepsL.isA ?_ StepsL.nil)))))))))
              · -- 0
                intro vs a W K ha hC hD hU hK
                have r1 : a.tmps[1]? = some (.pointer (some ⟨gS, 0, none⟩)) := by rw [ha, fillA_base0 (by kernel_rfl)]; exact tb1
                clear ha hU hD ha0
                rw [if_pos (by rfl)]
                obtain ⟨k0, k1, k2, k3, k4, k5, k6, k7, k8⟩ := kk.out W (bl_call HC8.out hC (Nat.le_refl _))
                go_simp
                exact hK _ hC (Below.refl _ _)
              · -- 1
                intro vs a W K ha hC hD hU hK
                clear ha hU hD ha0
                rw [if_pos (by rfl)]
                go_simp
                refine (span7_any 990 1000 W).mono ?_
                rintro e w' ⟨rfl, hb⟩
                exact hK _ (bl_call hC hb (Nat.le_refl _)) hb
              · -- 2
                intro vs a W K ha hC hD hU hK
                clear ha hU hD ha0
                rw [if_pos (by rfl)]
                go_simp
                refine (span7_any 980 985 W).mono ?_
                rintro e w' ⟨rfl, hb⟩
                exact hK _ (bl_call hC hb (Nat.le_refl _)) hb
              · -- 3
                intro vs a W K ha hC hD hU hK
                have r61 : a.tmps[61]? = some (vs 1) := by rw [ha]; exact fillA_get0 (j := 1) (by kernel_rfl) (by rw [hsz]; decide)
                have q1 : vs 1 = .agg #[.int .i64 990, .int .i64 1000] := hD 1 (by simp [waits, Region.binds])
                rw [q1] at r61
                have r62 : a.tmps[62]? = some (vs 2) := by rw [ha]; exact fillA_get0 (j := 2) (by kernel_rfl) (by rw [hsz]; decide)
                have q2 : vs 2 = .agg #[.int .i64 980, .int .i64 985] := hD 2 (by simp [waits, Region.binds])
                rw [q2] at r62
                clear ha hU hD ha0
                rw [if_pos (by rfl)]
                go_simp
                exact hK _ _ (bl_alloc hC _ (Nat.le_refl _)) (bl_alloc (Below.refl _ _) _ (Nat.le_refl _)) (IsPairsV.new [(990, 1000), (980, 985)] _ (by rfl) (by decide) hC.size)
              · -- 4
                intro vs a W K ha hC hD hU hK
                have r60 : a.tmps[60]? = some (vs 0) := by rw [ha]; exact fillA_get0 (j := 0) (by kernel_rfl) (by rw [hsz]; decide)
                have q0 : vs 0 = .agg #[.int .i64 10, .int .i64 12, .slice (some ⟨A1, 0, none⟩) 2 ca1] := hD 0 (by simp [waits, Region.binds])
                rw [q0] at r60
                have r63 : a.tmps[63]? = some (vs 3) := by rw [ha]; exact fillA_get0 (j := 3) (by kernel_rfl) (by rw [hsz]; decide)
                have P3 : IsPairsV V7.heap.size [(990, 1000), (980, 985)] (vs 3) W := hD 3 (by simp [waits, Region.binds])
                obtain ⟨B63, d63, e63, hI63⟩ := P3
                rw [e63] at r63
                clear ha hU hD ha0
                rw [if_pos (by rfl)]
                go_simp
                refine (klacks_any (s := exShop) (l := []) (p := [(990, 1000), (980, 985)]) W (HMV.out W (bl_call HC8.out hC (Nat.le_refl _))) (SliceOf.nil _ _ _ _ _) (hI63.mono PairR.good (fun _ _ => trivial)) hca1 rfl rfl).mono ?_
                rw [kn7_n]
                rintro e w' ⟨hT, hb⟩
                obtain ⟨v, rfl, hv⟩ := IntsV.of hT
                exact hK _ _ (bl_call hC hb (Nat.le_refl _)) hb hv
              · -- 5
                intro vs a W K ha hC hD hU hK
                have r64 : a.tmps[64]? = some (vs 4) := by rw [ha]; exact fillA_get0 (j := 4) (by kernel_rfl) (by rw [hsz]; decide)
                have P4 : IntsV ([1], 0) (vs 4) W := hD 4 (by simp [waits, Region.binds])
                obtain ⟨A64, n64, c64, e64, hI64⟩ := P4
                rw [e64] at r64
                clear ha hU hD ha0
                rw [if_pos (by rfl)]
                go_simp
                exact hK _ _ hC (Below.refl _ _) (by first | exact ⟨_, _, _, rfl, hI64⟩ | exact ⟨_, _, _, _, _, _, rfl, hI64, hJ64⟩)
              · -- 6
                intro vs a W K ha hC hD hU hK
                have r59 : a.tmps[59]? = some (vs 5) := by rw [ha]; exact fillA_get0 (j := 5) (by kernel_rfl) (by rw [hsz]; decide)
                have P5 : IntsV ([1], 0) (vs 5) W := hD 5 (by simp [waits, Region.binds])
                obtain ⟨A59, n59, c59, e59, hI59⟩ := P5
                rw [e59] at r59
                clear ha hU hD ha0
                rw [if_pos (by rfl)]
                go_simp
                exact hK _ _ hC (Below.refl _ _) ⟨_, _, _, rfl, hI59⟩
              · -- 7
                intro vs a W K ha hC hD hU hK
                have r59 : a.tmps[59]? = some (vs 5) := by rw [ha]; exact fillA_get0 (j := 5) (by kernel_rfl) (by rw [hsz]; decide)
                have P5 : IntsV ([1], 0) (vs 5) W := hD 5 (by simp [waits, Region.binds])
                obtain ⟨A59, n59, c59, e59, hI59⟩ := P5
                rw [e59] at r59
                clear ha hU hD ha0
                rw [if_pos (by rfl)]
                go_simp
                exact hK _ hC (Below.refl _ _)
              · -- 8
                intro vs a W K ha hC hD hU hK
                have r65 : a.tmps[65]? = some (vs 6) := by rw [ha]; exact fillA_get0 (j := 6) (by kernel_rfl) (by rw [hsz]; decide)
                have P6 : SlI [1] (vs 6) W := hD 6 (by simp [waits, Region.binds])
                obtain ⟨A65, n65, c65, e65, hI65⟩ := P6
                rw [e65] at r65
                clear ha hU hD ha0
                rw [if_pos (by rfl)]
                go_simp
                exact hK _ _ hC (Below.refl _ _) (by first | exact ⟨_, _, _, rfl, hI65⟩ | exact ⟨_, _, _, _, _, _, rfl, hI65, hJ65⟩)
              · -- 9
                intro vs a W K ha hC hD hU hK
                have r66 : a.tmps[66]? = some (vs 7) := by rw [ha]; exact fillA_get0 (j := 7) (by kernel_rfl) (by rw [hsz]; decide)
                have q7 : vs 7 = .int .i64 0 := hD 7 (by simp [waits, Region.binds])
                rw [q7] at r66
                clear ha hU hD ha0
                rw [if_pos (by rfl)]
                go_simp
                exact hK _ hC (Below.refl _ _)
            case fin8 =>
              refine Fin1.none (Nat.le_refl _) ?_
              intro vs W a1 hC hE ha
              have hE0 := hE
              have E8 : SlI [1] (vs 8) W := hE 8 (by simp)
              obtain ⟨r15_A, r15_n, r15_c, r15_e, r15_h⟩ := E8
              have H_r15 := Lib.hid r15_h
              have n16_e : vs 9 = .int .i64 0 := hE 9 (by simp)
              rw [ha, ha0]
              clear ha ha0 hsz tb1
              simp only [fillA, Act.put, List.setIfInBounds_toArray, List.set_cons_zero, List.set_cons_succ, Nat.zero_add, Nat.reduceAdd, r15_e, n16_e]
              obtain ⟨u0, hu0⟩ : ∃ v0, vs 0 = v0 := ⟨_, rfl⟩
              obtain ⟨u1, hu1⟩ : ∃ v0, vs 1 = v0 := ⟨_, rfl⟩
              obtain ⟨u2, hu2⟩ : ∃ v0, vs 2 = v0 := ⟨_, rfl⟩
              obtain ⟨u3, hu3⟩ : ∃ v0, vs 3 = v0 := ⟨_, rfl⟩
              obtain ⟨u4, hu4⟩ : ∃ v0, vs 4 = v0 := ⟨_, rfl⟩
              obtain ⟨u5, hu5⟩ : ∃ v0, vs 5 = v0 := ⟨_, rfl⟩
              obtain ⟨u6, hu6⟩ : ∃ v0, vs 6 = v0 := ⟨_, rfl⟩
              obtain ⟨u7, hu7⟩ : ∃ v0, vs 7 = v0 := ⟨_, rfl⟩
              rw [hu0, hu1, hu2, hu3, hu4, hu5, hu6, hu7]
              clear hu0 hu1 hu2 hu3 hu4 hu5 hu6 hu7
              have HL8 : Hid (Below V4.heap.size V4 W) := bl_call HC8.out hC (Nat.le_refl _)
              replace H_r15 : Hid (∀ V, Below W.heap.size W V → Ints (fun _ => True) V r15_A r15_n [1]) := fun V hb => H_r15.out.keep IntR.good (Keeps.below hb)
              clear r15_h
              have hCk := Lib.hid hC
              clear hE hE0 hC HC8 r15_e n16_e
              replace H_r8 : Hid (∀ V, Below W.heap.size W V → Ints (fun _ => True) V r8_A r8_n [10, 11, 12]) := fun V hb => H_r8.out V (bl_call hCk.out hb (Nat.le_refl _))
              replace H_r10 : Hid (∀ V, Below W.heap.size W V → Pls (fun _ => True) V r10_A r10_n [(0, 1), (0, 2), (0, 3), (1, 0), (1, 1)]) := fun V hb => H_r10.out V (bl_call hCk.out hb (Nat.le_refl _))
              replace H_r12 : Hid (∀ V, Below W.heap.size W V → Pls (fun _ => True) V r12_A r12_n [(1, 0), (1, 1)]) := fun V hb => H_r12.out V (bl_call hCk.out hb (Nat.le_refl _))
              replace H_r13 : Hid (∀ V, Below W.heap.size W V → Ints (fun _ => True) V r13_A r13_n [1]) := fun V hb => H_r13.out V (bl_call hCk.out hb (Nat.le_refl _))
              clear hCk
              obtain ⟨V8, hV8⟩ : ∃ V, V = W := ⟨_, rfl⟩
              subst hV8
              go_simp
              go_wp2_with fail
              have HC10 : Hid (Below V4.heap.size V4 V8) := HL8.out
              refine wp_frameT ?_
              intro a0 ha0
              have tb2 : a0.tmps[2]? = some (.pointer (some ⟨g2, 0, none⟩)) := by rw [ha0]; kernel_rfl
              have tb3 : a0.tmps[3]? = some (.int .i64 0) := by rw [ha0]; kernel_rfl
              have tb4 : a0.tmps[4]? = some (.pointer (some ⟨g4, 0, none⟩)) := by rw [ha0]; kernel_rfl
              have tb5 : a0.tmps[5]? = some (.int .i64 0) := by rw [ha0]; kernel_rfl
              have tb6 : a0.tmps[6]? = some (.pointer (some ⟨g6, 0, none⟩)) := by rw [ha0]; kernel_rfl
              have tb7 : a0.tmps[7]? = some (.int .i64 0) := by rw [ha0]; kernel_rfl
              have tb8 : a0.tmps[8]? = some (.slice r8_A r8_n r8_c) := by rw [ha0]; kernel_rfl
              have tb9 : a0.tmps[9]? = some (.int .i64 0) := by rw [ha0]; kernel_rfl
              have tb10 : a0.tmps[10]? = some (.slice r10_A r10_n r10_c) := by rw [ha0]; kernel_rfl
              have tb11 : a0.tmps[11]? = some (.int .i64 0) := by rw [ha0]; kernel_rfl
              have tb12 : a0.tmps[12]? = some (.slice r12_A r12_n r12_c) := by rw [ha0]; kernel_rfl
              have tb13 : a0.tmps[13]? = some (.slice r13_A r13_n r13_c) := by rw [ha0]; kernel_rfl
              have tb14 : a0.tmps[14]? = some (.int .i64 0) := by rw [ha0]; kernel_rfl
              have tb15 : a0.tmps[15]? = some (.slice r15_A r15_n r15_c) := by rw [ha0]; kernel_rfl
              have tb16 : a0.tmps[16]? = some (.int .i64 0) := by rw [ha0]; kernel_rfl
              have hsz : a0.tmps.size = 143 := by rw [ha0]; kernel_rfl
              refine wp_region_list (fun W => Below V8.heap.size V8 W) (fun w w' => Below w.heap.size w w')
                [isV (.int .i64 0), isV (.bool true), isV (.bool true), isV (.int .i64 0), isV (.bool true), isV (.bool true), isV (.bool true), isV (.int .i64 0), isV (.bool true), isV (.bool true), isV (.bool true), isV (.int .i64 0), isV (.bool true), isV (.bool true), isV (.bool true), isV (.int .i64 0), isV (.bool true), isV (.bool true), isV (.bool true), isV (.int .i64 0), isV (.bool true), isV (.bool true), isV (.bool true), isV (.int .i64 0), isV (.bool true), isV (.bool true), isV (.bool true), isV (.agg #[.int .i64 988, .int .i64 992]), isV (.agg #[.int .i64 988, .int .i64 992]), isV (.bool true), isV (.bool true), isV (.bool true), isV (.agg #[.int .i64 998, .int .i64 1000]), isV (.agg #[.int .i64 998, .int .i64 1000]), isV (.bool true), isV (.bool true), isV (.bool true), isV (.agg #[.int .i64 988, .int .i64 990]), isV (.agg #[.int .i64 988, .int .i64 990]), isV (.bool true), isV (.bool true), isV (.bool true), isV (.slice r8_A r8_n r8_c), IsIntsV V8.heap.size [10, 11, 12], isV (.bool true), isV (.bool true), isV (.bool true), isV (.slice r10_A r10_n r10_c), isV (.agg #[.int .i64 0, .int .i64 1]), isV (.agg #[.int .i64 0, .int .i64 2]), isV (.agg #[.int .i64 0, .int .i64 3]), isV (.agg #[.int .i64 1, .int .i64 0]), isV (.agg #[.int .i64 1, .int .i64 1]), IsPlsV V8.heap.size [(0, 1), (0, 2), (0, 3), (1, 0), (1, 1)], isV (.bool true), isV (.bool true), isV (.bool true), isV (.slice r12_A r12_n r12_c), isV (.agg #[.int .i64 1, .int .i64 0]), isV (.agg #[.int .i64 1, .int .i64 1]), IsPlsV V8.heap.size [(1, 0), (1, 1)], isV (.bool true), isV (.bool true), isV (.bool true), isV (.slice r13_A r13_n r13_c), IsIntsV V8.heap.size [1], isV (.bool true), isV (.bool true), isV (.bool true), isV (.slice r15_A r15_n r15_c), IsIntsV V8.heap.size [1], isV (.bool true), isV (.bool true), isV (.bool true), isV (.bool true), isV (.bool true), isV (.bool true)]
                (by kernel_rfl) (by kernel_rfl) (by kernel_rfl) (by simp) (by simp) (Below.refl _ _).drew ?stabT ?stepT ?finT
              case stabT => exact (StabL.is (StabL.is (StabL.is (StabL.is (StabL.is (StabL.is (StabL.is (StabL.is (StabL.is (StabL.is (StabL.is (StabL.is (StabL.is (StabL.is (StabL.is (StabL.is (StabL.is (StabL.is (StabL.is (StabL.is (StabL.is (StabL.is (StabL.is (StabL.is (StabL.is (StabL.is (StabL.is (StabL.is (StabL.is (StabL.is (StabL.is (StabL.is (StabL.is (StabL.is (StabL.is (StabL.is (StabL.is (StabL.is (StabL.is (StabL.is (StabL.is (StabL.is (StabL.is (StabL.cons (fun v W V hC hX h => h.bl hX) (StabL.is (StabL.is (StabL.is (StabL.is (StabL.is (StabL.is (StabL.is (StabL.is (StabL.is (StabL.cons (fun v W V hC hX h => h.bl hX) (StabL.is (StabL.is (StabL.is (StabL.is (StabL.is (StabL.is (StabL.cons (fun v W V hC hX h => h.bl hX) (StabL.is (StabL.is (StabL.is (StabL.is (StabL.cons (fun v W V hC hX h => h.bl hX) (StabL.is (StabL.is (StabL.is (StabL.is (StabL.cons (fun v W V hC hX h => h.bl hX) (StabL.is (StabL.is (StabL.is (StabL.is (StabL.is (StabL.is StabL.nil)))))))))))))))))))))))))))))))))))))))))))))))))))))))))))))))))))))))))))))
              case stepT =>
                refine StepsL.isA ?_ (StepsL.isA ?_ (StepsL.isA ?_ (StepsL.isA ?_ (StepsL.isA ?_ (StepsL.isA ?_ (StepsL.isA ?_ (StepsL.isA ?_ (StepsL.isA ?_ (StepsL.isA ?_ (StepsL.isA ?_ (StepsL.isA ?_ (StepsL.isA ?_ (StepsL.isA ?_ (StepsL.isA ?_ (StepsL.isA ?_ (StepsL.isA ?_ (StepsL.isA ?_ (StepsL.isA ?_ (StepsL.isA ?_ (StepsL.isA ?_ (StepsL.isA ?_ (StepsL.isA ?_ (StepsL.isA ?_ (StepsL.isA ?_ (StepsL.isA ?_ (StepsL.isA ?_ (StepsL.isA ?_ (StepsL.isA ?_ (StepsL.isA ?_ (StepsL.isA ?_ (StepsL.isA ?_ (StepsL.isA ?_ (StepsL.isA ?_ (StepsL.isA ?_ (StepsL.isA ?_ (StepsL.isA ?_ (StepsL.isA ?_ (StepsL.isA ?_ (StepsL.isA ?_ (StepsL.isA ?_ (StepsL.isA ?_ (StepsL.isA ?_ (StepsL.consA ?_ (StepsL.isA ?_ (StepsL.isA ?_ (StepsL.isA ?_ (StepsL.isA ?_ (StepsL.isA ?_ (StepsL.isA ?_ (StepsL.isA ?_ (StepsL.isA ?_ (StepsL.isA ?_ (StepsL.consA ?_ (StepsL.isA ?_ (StepsL.isA ?_ (StepsL.isA ?_ (StepsL.isA ?_ (StepsL.isA ?_ (StepsL.isA ?_ (StepsL.consA ?_ (StepsL.isA ?_ (StepsL.isA ?_ (StepsL.isA ?_ (StepsL.isA ?_ (StepsL.consA ?_ (StepsL.isA ?_ (StepsL.isA ?_ (StepsL.isA ?_ (StepsL.isA ?_ (StepsL.consA ?_ (StepsL.isA ?_ (StepsL.isA ?_ (StepsL.isA ?_ (StepsL.isA ?_ (StepsL.isA ?_ (StepsL.isA ?_ StepsL.nil))))))))))))))))))))))))))))))))))))))))))))))))))))))))))))))))))))))))))))
                · -- 0
                  intro vs a W K ha hC hD hU hK
                  have r3 : a.tmps[3]? = some (.int .i64 0) := by rw [ha, fillA_base0 (by kernel_rfl)]; exact tb3
                  clear ha hU hD ha0
                  rw [if_pos (by rfl)]
                  go_simp
                  exact hK _ hC (Below.refl _ _)
                · -- 1
                  intro vs a W K ha hC hD hU hK
                  have r67 : a.tmps[67]? = some (vs 0) := by rw [ha]; exact fillA_get0 (j := 0) (by kernel_rfl) (by rw [hsz]; decide)
                  have q0 : vs 0 = .int .i64 0 := hD 0 (by simp [waits, Region.binds])
                  rw [q0] at r67
                  clear ha hU hD ha0
                  rw [if_pos (by rfl)]
                  go_simp
                  exact hK _ hC (Below.refl _ _)
                · -- 2
                  intro vs a W K ha hC hD hU hK
                  have r68 : a.tmps[68]? = some (vs 1) := by rw [ha]; exact fillA_get0 (j := 1) (by kernel_rfl) (by rw [hsz]; decide)
                  have q1 : vs 1 = .bool true := hD 1 (by simp [waits, Region.binds])
                  rw [q1] at r68
                  clear ha hU hD ha0
                  rw [if_pos (by rfl)]
                  go_simp
                  exact hK _ hC (Below.refl _ _)
                · -- 3
                  intro vs a W K ha hC hD hU hK
                  have r69 : a.tmps[69]? = some (vs 2) := by rw [ha]; exact fillA_get0 (j := 2) (by kernel_rfl) (by rw [hsz]; decide)
                  have q2 : vs 2 = .bool true := hD 2 (by simp [waits, Region.binds])
                  rw [q2] at r69
                  have r5 : a.tmps[5]? = some (.int .i64 0) := by rw [ha, fillA_base0 (by kernel_rfl)]; exact tb5
                  clear ha hU hD ha0
                  rw [if_pos (by simp [Region.wanted, yielded, r69])]
                  go_simp
                  exact hK _ hC (Below.refl _ _)
                · -- 4
                  intro vs a W K ha hC hD hU hK
                  have r69 : a.tmps[69]? = some (vs 2) := by rw [ha]; exact fillA_get0 (j := 2) (by kernel_rfl) (by rw [hsz]; decide)
                  have q2 : vs 2 = .bool true := hD 2 (by simp [waits, Region.binds])
                  rw [q2] at r69
                  have r70 : a.tmps[70]? = some (vs 3) := by rw [ha]; exact fillA_get0 (j := 3) (by kernel_rfl) (by rw [hsz]; decide)
                  have q3 : vs 3 = .int .i64 0 := hD 3 (by simp [waits, Region.binds])
                  rw [q3] at r70
                  clear ha hU hD ha0
                  rw [if_pos (by simp [Region.wanted, yielded, r69])]
                  go_simp
                  exact hK _ hC (Below.refl _ _)
                · -- 5
                  intro vs a W K ha hC hD hU hK
                  have r69 : a.tmps[69]? = some (vs 2) := by rw [ha]; exact fillA_get0 (j := 2) (by kernel_rfl) (by rw [hsz]; decide)
                  have q2 : vs 2 = .bool true := hD 2 (by simp [waits, Region.binds])
                  rw [q2] at r69
                  have r71 : a.tmps[71]? = some (vs 4) := by rw [ha]; exact fillA_get0 (j := 4) (by kernel_rfl) (by rw [hsz]; decide)
                  have q4 : vs 4 = .bool true := hD 4 (by simp [waits, Region.binds])
                  rw [q4] at r71
                  clear ha hU hD ha0
                  rw [if_pos (by rfl)]
                  go_simp
                  exact hK _ hC (Below.refl _ _)
                · -- 6
                  intro vs a W K ha hC hD hU hK
                  have r72 : a.tmps[72]? = some (vs 5) := by rw [ha]; exact fillA_get0 (j := 5) (by kernel_rfl) (by rw [hsz]; decide)
                  have q5 : vs 5 = .bool true := hD 5 (by simp [waits, Region.binds])
                  rw [q5] at r72
                  clear ha hU hD ha0
                  rw [if_pos (by rfl)]
                  go_simp
                  exact hK _ hC (Below.refl _ _)
                · -- 7
                  intro vs a W K ha hC hD hU hK
                  have r73 : a.tmps[73]? = some (vs 6) := by rw [ha]; exact fillA_get0 (j := 6) (by kernel_rfl) (by rw [hsz]; decide)
                  have q6 : vs 6 = .bool true := hD 6 (by simp [waits, Region.binds])
                  rw [q6] at r73
                  have r7 : a.tmps[7]? = some (.int .i64 0) := by rw [ha, fillA_base0 (by kernel_rfl)]; exact tb7
                  clear ha hU hD ha0
                  rw [if_pos (by simp [Region.wanted, yielded, r73])]
                  go_simp
                  exact hK _ hC (Below.refl _ _)
                · -- 8
                  intro vs a W K ha hC hD hU hK
                  have r73 : a.tmps[73]? = some (vs 6) := by rw [ha]; exact fillA_get0 (j := 6) (by kernel_rfl) (by rw [hsz]; decide)
                  have q6 : vs 6 = .bool true := hD 6 (by simp [waits, Region.binds])
                  rw [q6] at r73
                  have r74 : a.tmps[74]? = some (vs 7) := by rw [ha]; exact fillA_get0 (j := 7) (by kernel_rfl) (by rw [hsz]; decide)
                  have q7 : vs 7 = .int .i64 0 := hD 7 (by simp [waits, Region.binds])
                  rw [q7] at r74
                  clear ha hU hD ha0
                  rw [if_pos (by simp [Region.wanted, yielded, r73])]
                  go_simp
                  exact hK _ hC (Below.refl _ _)
                · -- 9
                  intro vs a W K ha hC hD hU hK
                  have r73 : a.tmps[73]? = some (vs 6) := by rw [ha]; exact fillA_get0 (j := 6) (by kernel_rfl) (by rw [hsz]; decide)
                  have q6 : vs 6 = .bool true := hD 6 (by simp [waits, Region.binds])
                  rw [q6] at r73
                  have r75 : a.tmps[75]? = some (vs 8) := by rw [ha]; exact fillA_get0 (j := 8) (by kernel_rfl) (by rw [hsz]; decide)
                  have q8 : vs 8 = .bool true := hD 8 (by simp [waits, Region.binds])
                  rw [q8] at r75
                  clear ha hU hD ha0
                  rw [if_pos (by rfl)]
                  go_simp
                  exact hK _ hC (Below.refl _ _)
                · -- 10
                  intro vs a W K ha hC hD hU hK
                  have r76 : a.tmps[76]? = some (vs 9) := by rw [ha]; exact fillA_get0 (j := 9) (by kernel_rfl) (by rw [hsz]; decide)
                  have q9 : vs 9 = .bool true := hD 9 (by simp [waits, Region.binds])
                  rw [q9] at r76
                  clear ha hU hD ha0
                  rw [if_pos (by rfl)]
                  go_simp
                  exact hK _ hC (Below.refl _ _)
                · -- 11
                  intro vs a W K ha hC hD hU hK
                  have r77 : a.tmps[77]? = some (vs 10) := by rw [ha]; exact fillA_get0 (j := 10) (by kernel_rfl) (by rw [hsz]; decide)
                  have q10 : vs 10 = .bool true := hD 10 (by simp [waits, Region.binds])
                  rw [q10] at r77
                  have r9 : a.tmps[9]? = some (.int .i64 0) := by rw [ha, fillA_base0 (by kernel_rfl)]; exact tb9
                  clear ha hU hD ha0
                  rw [if_pos (by simp [Region.wanted, yielded, r77])]
                  go_simp
                  exact hK _ hC (Below.refl _ _)
                · -- 12
                  intro vs a W K ha hC hD hU hK
                  have r77 : a.tmps[77]? = some (vs 10) := by rw [ha]; exact fillA_get0 (j := 10) (by kernel_rfl) (by rw [hsz]; decide)
                  have q10 : vs 10 = .bool true := hD 10 (by simp [waits, Region.binds])
                  rw [q10] at r77
                  have r78 : a.tmps[78]? = some (vs 11) := by rw [ha]; exact fillA_get0 (j := 11) (by kernel_rfl) (by rw [hsz]; decide)
                  have q11 : vs 11 = .int .i64 0 := hD 11 (by simp [waits, Region.binds])
                  rw [q11] at r78
                  clear ha hU hD ha0
                  rw [if_pos (by simp [Region.wanted, yielded, r77])]
                  go_simp
                  exact hK _ hC (Below.refl _ _)
                · -- 13
                  intro vs a W K ha hC hD hU hK
                  have r77 : a.tmps[77]? = some (vs 10) := by rw [ha]; exact fillA_get0 (j := 10) (by kernel_rfl) (by rw [hsz]; decide)
                  have q10 : vs 10 = .bool true := hD 10 (by simp [waits, Region.binds])
                  rw [q10] at r77
                  have r79 : a.tmps[79]? = some (vs 12) := by rw [ha]; exact fillA_get0 (j := 12) (by kernel_rfl) (by rw [hsz]; decide)
                  have q12 : vs 12 = .bool true := hD 12 (by simp [waits, Region.binds])
                  rw [q12] at r79
                  clear ha hU hD ha0
                  rw [if_pos (by rfl)]
                  go_simp
                  exact hK _ hC (Below.refl _ _)
                · -- 14
                  intro vs a W K ha hC hD hU hK
                  have r80 : a.tmps[80]? = some (vs 13) := by rw [ha]; exact fillA_get0 (j := 13) (by kernel_rfl) (by rw [hsz]; decide)
                  have q13 : vs 13 = .bool true := hD 13 (by simp [waits, Region.binds])
                  rw [q13] at r80
                  clear ha hU hD ha0
                  rw [if_pos (by rfl)]
                  go_simp
                  exact hK _ hC (Below.refl _ _)
                · -- 15
                  intro vs a W K ha hC hD hU hK
                  have r81 : a.tmps[81]? = some (vs 14) := by rw [ha]; exact fillA_get0 (j := 14) (by kernel_rfl) (by rw [hsz]; decide)
                  have q14 : vs 14 = .bool true := hD 14 (by simp [waits, Region.binds])
                  rw [q14] at r81
                  have r11 : a.tmps[11]? = some (.int .i64 0) := by rw [ha, fillA_base0 (by kernel_rfl)]; exact tb11
                  clear ha hU hD ha0
                  rw [if_pos (by simp [Region.wanted, yielded, r81])]
                  go_simp
                  exact hK _ hC (Below.refl _ _)
                · -- 16
                  intro vs a W K ha hC hD hU hK
                  have r81 : a.tmps[81]? = some (vs 14) := by rw [ha]; exact fillA_get0 (j := 14) (by kernel_rfl) (by rw [hsz]; decide)
                  have q14 : vs 14 = .bool true := hD 14 (by simp [waits, Region.binds])
                  rw [q14] at r81
                  have r82 : a.tmps[82]? = some (vs 15) := by rw [ha]; exact fillA_get0 (j := 15) (by kernel_rfl) (by rw [hsz]; decide)
                  have q15 : vs 15 = .int .i64 0 := hD 15 (by simp [waits, Region.binds])
                  rw [q15] at r82
                  clear ha hU hD ha0
                  rw [if_pos (by simp [Region.wanted, yielded, r81])]
                  go_simp
                  exact hK _ hC (Below.refl _ _)
                · -- 17
                  intro vs a W K ha hC hD hU hK
                  have r81 : a.tmps[81]? = some (vs 14) := by rw [ha]; exact fillA_get0 (j := 14) (by kernel_rfl) (by rw [hsz]; decide)
                  have q14 : vs 14 = .bool true := hD 14 (by simp [waits, Region.binds])
                  rw [q14] at r81
                  have r83 : a.tmps[83]? = some (vs 16) := by rw [ha]; exact fillA_get0 (j := 16) (by kernel_rfl) (by rw [hsz]; decide)
                  have q16 : vs 16 = .bool true := hD 16 (by simp [waits, Region.binds])
                  rw [q16] at r83
                  clear ha hU hD ha0
                  rw [if_pos (by rfl)]
                  go_simp
                  exact hK _ hC (Below.refl _ _)
                · -- 18
                  intro vs a W K ha hC hD hU hK
                  have r84 : a.tmps[84]? = some (vs 17) := by rw [ha]; exact fillA_get0 (j := 17) (by kernel_rfl) (by rw [hsz]; decide)
                  have q17 : vs 17 = .bool true := hD 17 (by simp [waits, Region.binds])
                  rw [q17] at r84
                  clear ha hU hD ha0
                  rw [if_pos (by rfl)]
                  go_simp
                  exact hK _ hC (Below.refl _ _)
                · -- 19
                  intro vs a W K ha hC hD hU hK
                  have r85 : a.tmps[85]? = some (vs 18) := by rw [ha]; exact fillA_get0 (j := 18) (by kernel_rfl) (by rw [hsz]; decide)
                  have q18 : vs 18 = .bool true := hD 18 (by simp [waits, Region.binds])
                  rw [q18] at r85
                  have r14 : a.tmps[14]? = some (.int .i64 0) := by rw [ha, fillA_base0 (by kernel_rfl)]; exact tb14
                  clear ha hU hD ha0
                  rw [if_pos (by simp [Region.wanted, yielded, r85])]
                  go_simp
                  exact hK _ hC (Below.refl _ _)
                · -- 20
                  intro vs a W K ha hC hD hU hK
                  have r85 : a.tmps[85]? = some (vs 18) := by rw [ha]; exact fillA_get0 (j := 18) (by kernel_rfl) (by rw [hsz]; decide)
                  have q18 : vs 18 = .bool true := hD 18 (by simp [waits, Region.binds])
                  rw [q18] at r85
                  have r86 : a.tmps[86]? = some (vs 19) := by rw [ha]; exact fillA_get0 (j := 19) (by kernel_rfl) (by rw [hsz]; decide)
                  have q19 : vs 19 = .int .i64 0 := hD 19 (by simp [waits, Region.binds])
                  rw [q19] at r86
                  clear ha hU hD ha0
                  rw [if_pos (by simp [Region.wanted, yielded, r85])]
                  go_simp
                  exact hK _ hC (Below.refl _ _)
                · -- 21
                  intro vs a W K ha hC hD hU hK
                  have r85 : a.tmps[85]? = some (vs 18) := by rw [ha]; exact fillA_get0 (j := 18) (by kernel_rfl) (by rw [hsz]; decide)
                  have q18 : vs 18 = .bool true := hD 18 (by simp [waits, Region.binds])
                  rw [q18] at r85
                  have r87 : a.tmps[87]? = some (vs 20) := by rw [ha]; exact fillA_get0 (j := 20) (by kernel_rfl) (by rw [hsz]; decide)
                  have q20 : vs 20 = .bool true := hD 20 (by simp [waits, Region.binds])
                  rw [q20] at r87
                  clear ha hU hD ha0
                  rw [if_pos (by rfl)]
                  go_simp
                  exact hK _ hC (Below.refl _ _)
                · -- 22
                  intro vs a W K ha hC hD hU hK
                  have r88 : a.tmps[88]? = some (vs 21) := by rw [ha]; exact fillA_get0 (j := 21) (by kernel_rfl) (by rw [hsz]; decide)
                  have q21 : vs 21 = .bool true := hD 21 (by simp [waits, Region.binds])
                  rw [q21] at r88
                  clear ha hU hD ha0
                  rw [if_pos (by rfl)]
                  go_simp
                  exact hK _ hC (Below.refl _ _)
                · -- 23
                  intro vs a W K ha hC hD hU hK
                  have r89 : a.tmps[89]? = some (vs 22) := by rw [ha]; exact fillA_get0 (j := 22) (by kernel_rfl) (by rw [hsz]; decide)
                  have q22 : vs 22 = .bool true := hD 22 (by simp [waits, Region.binds])
                  rw [q22] at r89
                  have r16 : a.tmps[16]? = some (.int .i64 0) := by rw [ha, fillA_base0 (by kernel_rfl)]; exact tb16
                  clear ha hU hD ha0
                  rw [if_pos (by simp [Region.wanted, yielded, r89])]
                  go_simp
                  exact hK _ hC (Below.refl _ _)
                · -- 24
                  intro vs a W K ha hC hD hU hK
                  have r89 : a.tmps[89]? = some (vs 22) := by rw [ha]; exact fillA_get0 (j := 22) (by kernel_rfl) (by rw [hsz]; decide)
                  have q22 : vs 22 = .bool true := hD 22 (by simp [waits, Region.binds])
                  rw [q22] at r89
                  have r90 : a.tmps[90]? = some (vs 23) := by rw [ha]; exact fillA_get0 (j := 23) (by kernel_rfl) (by rw [hsz]; decide)
                  have q23 : vs 23 = .int .i64 0 := hD 23 (by simp [waits, Region.binds])
                  rw [q23] at r90
                  clear ha hU hD ha0
                  rw [if_pos (by simp [Region.wanted, yielded, r89])]
                  go_simp
                  exact hK _ hC (Below.refl _ _)
                · -- 25
                  intro vs a W K ha hC hD hU hK
                  have r89 : a.tmps[89]? = some (vs 22) := by rw [ha]; exact fillA_get0 (j := 22) (by kernel_rfl) (by rw [hsz]; decide)
                  have q22 : vs 22 = .bool true := hD 22 (by simp [waits, Region.binds])
                  rw [q22] at r89
                  have r91 : a.tmps[91]? = some (vs 24) := by rw [ha]; exact fillA_get0 (j := 24) (by kernel_rfl) (by rw [hsz]; decide)
                  have q24 : vs 24 = .bool true := hD 24 (by simp [waits, Region.binds])
                  rw [q24] at r91
                  clear ha hU hD ha0
                  rw [if_pos (by rfl)]
                  go_simp
                  exact hK _ hC (Below.refl _ _)
                · -- 26
                  intro vs a W K ha hC hD hU hK
                  have r92 : a.tmps[92]? = some (vs 25) := by rw [ha]; exact fillA_get0 (j := 25) (by kernel_rfl) (by rw [hsz]; decide)
                  have q25 : vs 25 = .bool true := hD 25 (by simp [waits, Region.binds])
                  rw [q25] at r92
                  clear ha hU hD ha0
                  rw [if_pos (by rfl)]
                  go_simp
                  exact hK _ hC (Below.refl _ _)
                · -- 27
                  intro vs a W K ha hC hD hU hK
                  have r93 : a.tmps[93]? = some (vs 26) := by rw [ha]; exact fillA_get0 (j := 26) (by kernel_rfl) (by rw [hsz]; decide)
                  have q26 : vs 26 = .bool true := hD 26 (by simp [waits, Region.binds])
                  rw [q26] at r93
                  have r2 : a.tmps[2]? = some (.pointer (some ⟨g2, 0, none⟩)) := by rw [ha, fillA_base0 (by kernel_rfl)]; exact tb2
                  clear ha hU hD ha0
                  rw [if_pos (by simp [Region.wanted, yielded, r93])]
                  obtain ⟨k0, k1, k2, k3, k4, k5, k6, k7, k8⟩ := kk.out W (bl_call HC10.out hC (Nat.le_refl _))
                  go_simp
                  exact hK _ hC (Below.refl _ _)
                · -- 28
                  intro vs a W K ha hC hD hU hK
                  have r93 : a.tmps[93]? = some (vs 26) := by rw [ha]; exact fillA_get0 (j := 26) (by kernel_rfl) (by rw [hsz]; decide)
                  have q26 : vs 26 = .bool true := hD 26 (by simp [waits, Region.binds])
                  rw [q26] at r93
                  clear ha hU hD ha0
                  rw [if_pos (by simp [Region.wanted, yielded, r93])]
                  go_simp
                  refine (span7_any 988 992 W).mono ?_
                  rintro e w' ⟨rfl, hb⟩
                  exact hK _ (bl_call hC hb (Nat.le_refl _)) hb
                · -- 29
                  intro vs a W K ha hC hD hU hK
                  have r93 : a.tmps[93]? = some (vs 26) := by rw [ha]; exact fillA_get0 (j := 26) (by kernel_rfl) (by rw [hsz]; decide)
                  have q26 : vs 26 = .bool true := hD 26 (by simp [waits, Region.binds])
                  rw [q26] at r93
                  have r94 : a.tmps[94]? = some (vs 27) := by rw [ha]; exact fillA_get0 (j := 27) (by kernel_rfl) (by rw [hsz]; decide)
                  have q27 : vs 27 = .agg #[.int .i64 988, .int .i64 992] := hD 27 (by simp [waits, Region.binds])
                  rw [q27] at r94
                  have r95 : a.tmps[95]? = some (vs 28) := by rw [ha]; exact fillA_get0 (j := 28) (by kernel_rfl) (by rw [hsz]; decide)
                  have q28 : vs 28 = .agg #[.int .i64 988, .int .i64 992] := hD 28 (by simp [waits, Region.binds])
                  rw [q28] at r95
                  clear ha hU hD ha0
                  rw [if_pos (by simp [Region.wanted, yielded, r93])]
                  go_simp
                  exact hK _ hC (Below.refl _ _)
                · -- 30
                  intro vs a W K ha hC hD hU hK
                  have r93 : a.tmps[93]? = some (vs 26) := by rw [ha]; exact fillA_get0 (j := 26) (by kernel_rfl) (by rw [hsz]; decide)
                  have q26 : vs 26 = .bool true := hD 26 (by simp [waits, Region.binds])
                  rw [q26] at r93
                  have r96 : a.tmps[96]? = some (vs 29) := by rw [ha]; exact fillA_get0 (j := 29) (by kernel_rfl) (by rw [hsz]; decide)
                  have q29 : vs 29 = .bool true := hD 29 (by simp [waits, Region.binds])
                  rw [q29] at r96
                  clear ha hU hD ha0
                  rw [if_pos (by rfl)]
                  go_simp
                  exact hK _ hC (Below.refl _ _)
                · -- 31
                  intro vs a W K ha hC hD hU hK
                  have r97 : a.tmps[97]? = some (vs 30) := by rw [ha]; exact fillA_get0 (j := 30) (by kernel_rfl) (by rw [hsz]; decide)
                  have q30 : vs 30 = .bool true := hD 30 (by simp [waits, Region.binds])
                  rw [q30] at r97
                  clear ha hU hD ha0
                  rw [if_pos (by rfl)]
                  go_simp
                  exact hK _ hC (Below.refl _ _)
                · -- 32
                  intro vs a W K ha hC hD hU hK
                  have r98 : a.tmps[98]? = some (vs 31) := by rw [ha]; exact fillA_get0 (j := 31) (by kernel_rfl) (by rw [hsz]; decide)
                  have q31 : vs 31 = .bool true := hD 31 (by simp [waits, Region.binds])
                  rw [q31] at r98
                  have r4 : a.tmps[4]? = some (.pointer (some ⟨g4, 0, none⟩)) := by rw [ha, fillA_base0 (by kernel_rfl)]; exact tb4
                  clear ha hU hD ha0
                  rw [if_pos (by simp [Region.wanted, yielded, r98])]
                  obtain ⟨k0, k1, k2, k3, k4, k5, k6, k7, k8⟩ := kk.out W (bl_call HC10.out hC (Nat.le_refl _))
                  go_simp
                  exact hK _ hC (Below.refl _ _)
                · -- 33
                  intro vs a W K ha hC hD hU hK
                  have r98 : a.tmps[98]? = some (vs 31) := by rw [ha]; exact fillA_get0 (j := 31) (by kernel_rfl) (by rw [hsz]; decide)
                  have q31 : vs 31 = .bool true := hD 31 (by simp [waits, Region.binds])
                  rw [q31] at r98
                  clear ha hU hD ha0
                  rw [if_pos (by simp [Region.wanted, yielded, r98])]
                  go_simp
                  refine (span7_any 998 1000 W).mono ?_
                  rintro e w' ⟨rfl, hb⟩
                  exact hK _ (bl_call hC hb (Nat.le_refl _)) hb
                · -- 34
                  intro vs a W K ha hC hD hU hK
                  have r98 : a.tmps[98]? = some (vs 31) := by rw [ha]; exact fillA_get0 (j := 31) (by kernel_rfl) (by rw [hsz]; decide)
                  have q31 : vs 31 = .bool true := hD 31 (by simp [waits, Region.binds])
                  rw [q31] at r98
                  have r99 : a.tmps[99]? = some (vs 32) := by rw [ha]; exact fillA_get0 (j := 32) (by kernel_rfl) (by rw [hsz]; decide)
                  have q32 : vs 32 = .agg #[.int .i64 998, .int .i64 1000] := hD 32 (by simp [waits, Region.binds])
                  rw [q32] at r99
                  have r100 : a.tmps[100]? = some (vs 33) := by rw [ha]; exact fillA_get0 (j := 33) (by kernel_rfl) (by rw [hsz]; decide)
                  have q33 : vs 33 = .agg #[.int .i64 998, .int .i64 1000] := hD 33 (by simp [waits, Region.binds])
                  rw [q33] at r100
                  clear ha hU hD ha0
                  rw [if_pos (by simp [Region.wanted, yielded, r98])]
                  go_simp
                  exact hK _ hC (Below.refl _ _)
                · -- 35
                  intro vs a W K ha hC hD hU hK
                  have r98 : a.tmps[98]? = some (vs 31) := by rw [ha]; exact fillA_get0 (j := 31) (by kernel_rfl) (by rw [hsz]; decide)
                  have q31 : vs 31 = .bool true := hD 31 (by simp [waits, Region.binds])
                  rw [q31] at r98
                  have r101 : a.tmps[101]? = some (vs 34) := by rw [ha]; exact fillA_get0 (j := 34) (by kernel_rfl) (by rw [hsz]; decide)
                  have q34 : vs 34 = .bool true := hD 34 (by simp [waits, Region.binds])
                  rw [q34] at r101
                  clear ha hU hD ha0
                  rw [if_pos (by rfl)]
                  go_simp
                  exact hK _ hC (Below.refl _ _)
                · -- 36
                  intro vs a W K ha hC hD hU hK
                  have r102 : a.tmps[102]? = some (vs 35) := by rw [ha]; exact fillA_get0 (j := 35) (by kernel_rfl) (by rw [hsz]; decide)
                  have q35 : vs 35 = .bool true := hD 35 (by simp [waits, Region.binds])
                  rw [q35] at r102
                  clear ha hU hD ha0
                  rw [if_pos (by rfl)]
                  go_simp
                  exact hK _ hC (Below.refl _ _)
                · -- 37
                  intro vs a W K ha hC hD hU hK
                  have r103 : a.tmps[103]? = some (vs 36) := by rw [ha]; exact fillA_get0 (j := 36) (by kernel_rfl) (by rw [hsz]; decide)
                  have q36 : vs 36 = .bool true := hD 36 (by simp [waits, Region.binds])
                  rw [q36] at r103
                  have r6 : a.tmps[6]? = some (.pointer (some ⟨g6, 0, none⟩)) := by rw [ha, fillA_base0 (by kernel_rfl)]; exact tb6
                  clear ha hU hD ha0
                  rw [if_pos (by simp [Region.wanted, yielded, r103])]
                  obtain ⟨k0, k1, k2, k3, k4, k5, k6, k7, k8⟩ := kk.out W (bl_call HC10.out hC (Nat.le_refl _))
                  go_simp
                  exact hK _ hC (Below.refl _ _)
                · -- 38
                  intro vs a W K ha hC hD hU hK
                  have r103 : a.tmps[103]? = some (vs 36) := by rw [ha]; exact fillA_get0 (j := 36) (by kernel_rfl) (by rw [hsz]; decide)
                  have q36 : vs 36 = .bool true := hD 36 (by simp [waits, Region.binds])
                  rw [q36] at r103
                  clear ha hU hD ha0
                  rw [if_pos (by simp [Region.wanted, yielded, r103])]
                  go_simp
                  refine (span7_any 988 990 W).mono ?_
                  rintro e w' ⟨rfl, hb⟩
                  exact hK _ (bl_call hC hb (Nat.le_refl _)) hb
                · -- 39
                  intro vs a W K ha hC hD hU hK
                  have r103 : a.tmps[103]? = some (vs 36) := by rw [ha]; exact fillA_get0 (j := 36) (by kernel_rfl) (by rw [hsz]; decide)
                  have q36 : vs 36 = .bool true := hD 36 (by simp [waits, Region.binds])
                  rw [q36] at r103
                  have r104 : a.tmps[104]? = some (vs 37) := by rw [ha]; exact fillA_get0 (j := 37) (by kernel_rfl) (by rw [hsz]; decide)
                  have q37 : vs 37 = .agg #[.int .i64 988, .int .i64 990] := hD 37 (by simp [waits, Region.binds])
                  rw [q37] at r104
                  have r105 : a.tmps[105]? = some (vs 38) := by rw [ha]; exact fillA_get0 (j := 38) (by kernel_rfl) (by rw [hsz]; decide)
                  have q38 : vs 38 = .agg #[.int .i64 988, .int .i64 990] := hD 38 (by simp [waits, Region.binds])
                  rw [q38] at r105
                  clear ha hU hD ha0
                  rw [if_pos (by simp [Region.wanted, yielded, r103])]
                  go_simp
                  exact hK _ hC (Below.refl _ _)
                · -- 40
                  intro vs a W K ha hC hD hU hK
                  have r103 : a.tmps[103]? = some (vs 36) := by rw [ha]; exact fillA_get0 (j := 36) (by kernel_rfl) (by rw [hsz]; decide)
                  have q36 : vs 36 = .bool true := hD 36 (by simp [waits, Region.binds])
                  rw [q36] at r103
                  have r106 : a.tmps[106]? = some (vs 39) := by rw [ha]; exact fillA_get0 (j := 39) (by kernel_rfl) (by rw [hsz]; decide)
                  have q39 : vs 39 = .bool true := hD 39 (by simp [waits, Region.binds])
                  rw [q39] at r106
                  clear ha hU hD ha0
                  rw [if_pos (by rfl)]
                  go_simp
                  exact hK _ hC (Below.refl _ _)
                · -- 41
                  intro vs a W K ha hC hD hU hK
                  have r107 : a.tmps[107]? = some (vs 40) := by rw [ha]; exact fillA_get0 (j := 40) (by kernel_rfl) (by rw [hsz]; decide)
                  have q40 : vs 40 = .bool true := hD 40 (by simp [waits, Region.binds])
                  rw [q40] at r107
                  clear ha hU hD ha0
                  rw [if_pos (by rfl)]
                  go_simp
                  exact hK _ hC (Below.refl _ _)
                · -- 42
                  intro vs a W K ha hC hD hU hK
                  have r108 : a.tmps[108]? = some (vs 41) := by rw [ha]; exact fillA_get0 (j := 41) (by kernel_rfl) (by rw [hsz]; decide)
                  have q41 : vs 41 = .bool true := hD 41 (by simp [waits, Region.binds])
                  rw [q41] at r108
                  have r8 : a.tmps[8]? = some (.slice r8_A r8_n r8_c) := by rw [ha, fillA_base0 (by kernel_rfl)]; exact tb8
                  clear ha hU hD ha0
                  rw [if_pos (by simp [Region.wanted, yielded, r108])]
                  go_simp
                  exact hK _ hC (Below.refl _ _)
                · -- 43
                  intro vs a W K ha hC hD hU hK
                  have r108 : a.tmps[108]? = some (vs 41) := by rw [ha]; exact fillA_get0 (j := 41) (by kernel_rfl) (by rw [hsz]; decide)
                  have q41 : vs 41 = .bool true := hD 41 (by simp [waits, Region.binds])
                  rw [q41] at r108
                  clear ha hU hD ha0
                  rw [if_pos (by simp [Region.wanted, yielded, r108])]
                  go_simp
                  exact hK _ _ (bl_alloc hC _ (Nat.le_refl _)) (bl_alloc (Below.refl _ _) _ (Nat.le_refl _)) (IsIntsV.new [10, 11, 12] _ (by decide) hC.size)
                · -- 44
                  intro vs a W K ha hC hD hU hK
                  have r108 : a.tmps[108]? = some (vs 41) := by rw [ha]; exact fillA_get0 (j := 41) (by kernel_rfl) (by rw [hsz]; decide)
                  have q41 : vs 41 = .bool true := hD 41 (by simp [waits, Region.binds])
                  rw [q41] at r108
                  have r109 : a.tmps[109]? = some (vs 42) := by rw [ha]; exact fillA_get0 (j := 42) (by kernel_rfl) (by rw [hsz]; decide)
                  have q42 : vs 42 = .slice r8_A r8_n r8_c := hD 42 (by simp [waits, Region.binds])
                  rw [q42] at r109
                  have r110 : a.tmps[110]? = some (vs 43) := by rw [ha]; exact fillA_get0 (j := 43) (by kernel_rfl) (by rw [hsz]; decide)
                  have P43 : IsIntsV V8.heap.size [10, 11, 12] (vs 43) W := hD 43 (by simp [waits, Region.binds])
                  obtain ⟨B110, d110, e110, hI110⟩ := P43
                  rw [e110] at r110
                  clear ha hU hD ha0
                  rw [if_pos (by simp [Region.wanted, yielded, r108])]
                  go_simp
                  refine (ints_any W (H_r8.out W hC) hI110).mono ?_
                  rintro e w' ⟨rfl, q, rfl⟩
                  rw [decide_eq_true rfl]
                  exact hK _ (bl_drewN hC q) (bl_drewN (Below.refl _ _) q)
                · -- 45
                  intro vs a W K ha hC hD hU hK
                  have r108 : a.tmps[108]? = some (vs 41) := by rw [ha]; exact fillA_get0 (j := 41) (by kernel_rfl) (by rw [hsz]; decide)
                  have q41 : vs 41 = .bool true := hD 41 (by simp [waits, Region.binds])
                  rw [q41] at r108
                  have r111 : a.tmps[111]? = some (vs 44) := by rw [ha]; exact fillA_get0 (j := 44) (by kernel_rfl) (by rw [hsz]; decide)
                  have q44 : vs 44 = .bool true := hD 44 (by simp [waits, Region.binds])
                  rw [q44] at r111
                  clear ha hU hD ha0
                  rw [if_pos (by rfl)]
                  go_simp
                  exact hK _ hC (Below.refl _ _)
                · -- 46
                  intro vs a W K ha hC hD hU hK
                  have r112 : a.tmps[112]? = some (vs 45) := by rw [ha]; exact fillA_get0 (j := 45) (by kernel_rfl) (by rw [hsz]; decide)
                  have q45 : vs 45 = .bool true := hD 45 (by simp [waits, Region.binds])
                  rw [q45] at r112
                  clear ha hU hD ha0
                  rw [if_pos (by rfl)]
                  go_simp
                  exact hK _ hC (Below.refl _ _)
                · -- 47
                  intro vs a W K ha hC hD hU hK
                  have r113 : a.tmps[113]? = some (vs 46) := by rw [ha]; exact fillA_get0 (j := 46) (by kernel_rfl) (by rw [hsz]; decide)
                  have q46 : vs 46 = .bool true := hD 46 (by simp [waits, Region.binds])
                  rw [q46] at r113
                  have r10 : a.tmps[10]? = some (.slice r10_A r10_n r10_c) := by rw [ha, fillA_base0 (by kernel_rfl)]; exact tb10
                  clear ha hU hD ha0
                  rw [if_pos (by simp [Region.wanted, yielded, r113])]
                  go_simp
                  exact hK _ hC (Below.refl _ _)
                · -- 48
                  intro vs a W K ha hC hD hU hK
                  have r113 : a.tmps[113]? = some (vs 46) := by rw [ha]; exact fillA_get0 (j := 46) (by kernel_rfl) (by rw [hsz]; decide)
                  have q46 : vs 46 = .bool true := hD 46 (by simp [waits, Region.binds])
                  rw [q46] at r113
                  clear ha hU hD ha0
                  rw [if_pos (by simp [Region.wanted, yielded, r113])]
                  go_simp
                  refine (at7_any 0 1 W).mono ?_
                  rintro e w' ⟨rfl, hb⟩
                  exact hK _ (bl_call hC hb (Nat.le_refl _)) hb
                · -- 49
                  intro vs a W K ha hC hD hU hK
                  have r113 : a.tmps[113]? = some (vs 46) := by rw [ha]; exact fillA_get0 (j := 46) (by kernel_rfl) (by rw [hsz]; decide)
                  have q46 : vs 46 = .bool true := hD 46 (by simp [waits, Region.binds])
                  rw [q46] at r113
                  clear ha hU hD ha0
                  rw [if_pos (by simp [Region.wanted, yielded, r113])]
                  go_simp
                  refine (at7_any 0 2 W).mono ?_
                  rintro e w' ⟨rfl, hb⟩
                  exact hK _ (bl_call hC hb (Nat.le_refl _)) hb
                · -- 50
                  intro vs a W K ha hC hD hU hK
                  have r113 : a.tmps[113]? = some (vs 46) := by rw [ha]; exact fillA_get0 (j := 46) (by kernel_rfl) (by rw [hsz]; decide)
                  have q46 : vs 46 = .bool true := hD 46 (by simp [waits, Region.binds])
                  rw [q46] at r113
                  clear ha hU hD ha0
                  rw [if_pos (by simp [Region.wanted, yielded, r113])]
                  go_simp
                  refine (at7_any 0 3 W).mono ?_
                  rintro e w' ⟨rfl, hb⟩
                  exact hK _ (bl_call hC hb (Nat.le_refl _)) hb
                · -- 51
                  intro vs a W K ha hC hD hU hK
                  have r113 : a.tmps[113]? = some (vs 46) := by rw [ha]; exact fillA_get0 (j := 46) (by kernel_rfl) (by rw [hsz]; decide)
                  have q46 : vs 46 = .bool true := hD 46 (by simp [waits, Region.binds])
                  rw [q46] at r113
                  clear ha hU hD ha0
                  rw [if_pos (by simp [Region.wanted, yielded, r113])]
                  go_simp
                  refine (at7_any 1 0 W).mono ?_
                  rintro e w' ⟨rfl, hb⟩
                  exact hK _ (bl_call hC hb (Nat.le_refl _)) hb
                · -- 52
                  intro vs a W K ha hC hD hU hK
                  have r113 : a.tmps[113]? = some (vs 46) := by rw [ha]; exact fillA_get0 (j := 46) (by kernel_rfl) (by rw [hsz]; decide)
                  have q46 : vs 46 = .bool true := hD 46 (by simp [waits, Region.binds])
                  rw [q46] at r113
                  clear ha hU hD ha0
                  rw [if_pos (by simp [Region.wanted, yielded, r113])]
                  go_simp
                  refine (at7_any 1 1 W).mono ?_
                  rintro e w' ⟨rfl, hb⟩
                  exact hK _ (bl_call hC hb (Nat.le_refl _)) hb
                · -- 53
                  intro vs a W K ha hC hD hU hK
                  have r113 : a.tmps[113]? = some (vs 46) := by rw [ha]; exact fillA_get0 (j := 46) (by kernel_rfl) (by rw [hsz]; decide)
                  have q46 : vs 46 = .bool true := hD 46 (by simp [waits, Region.binds])
                  rw [q46] at r113
                  have r115 : a.tmps[115]? = some (vs 48) := by rw [ha]; exact fillA_get0 (j := 48) (by kernel_rfl) (by rw [hsz]; decide)
                  have q48 : vs 48 = .agg #[.int .i64 0, .int .i64 1] := hD 48 (by simp [waits, Region.binds])
                  rw [q48] at r115
                  have r116 : a.tmps[116]? = some (vs 49) := by rw [ha]; exact fillA_get0 (j := 49) (by kernel_rfl) (by rw [hsz]; decide)
                  have q49 : vs 49 = .agg #[.int .i64 0, .int .i64 2] := hD 49 (by simp [waits, Region.binds])
                  rw [q49] at r116
                  have r117 : a.tmps[117]? = some (vs 50) := by rw [ha]; exact fillA_get0 (j := 50) (by kernel_rfl) (by rw [hsz]; decide)
                  have q50 : vs 50 = .agg #[.int .i64 0, .int .i64 3] := hD 50 (by simp [waits, Region.binds])
                  rw [q50] at r117
                  have r118 : a.tmps[118]? = some (vs 51) := by rw [ha]; exact fillA_get0 (j := 51) (by kernel_rfl) (by rw [hsz]; decide)
                  have q51 : vs 51 = .agg #[.int .i64 1, .int .i64 0] := hD 51 (by simp [waits, Region.binds])
                  rw [q51] at r118
                  have r119 : a.tmps[119]? = some (vs 52) := by rw [ha]; exact fillA_get0 (j := 52) (by kernel_rfl) (by rw [hsz]; decide)
                  have q52 : vs 52 = .agg #[.int .i64 1, .int .i64 1] := hD 52 (by simp [waits, Region.binds])
                  rw [q52] at r119
                  clear ha hU hD ha0
                  rw [if_pos (by simp [Region.wanted, yielded, r113])]
                  go_simp
                  exact hK _ _ (bl_alloc hC _ (Nat.le_refl _)) (bl_alloc (Below.refl _ _) _ (Nat.le_refl _)) (IsPlsV.new [(0, 1), (0, 2), (0, 3), (1, 0), (1, 1)] _ (by rfl) (by decide) hC.size)
                · -- 54
                  intro vs a W K ha hC hD hU hK
                  have r113 : a.tmps[113]? = some (vs 46) := by rw [ha]; exact fillA_get0 (j := 46) (by kernel_rfl) (by rw [hsz]; decide)
                  have q46 : vs 46 = .bool true := hD 46 (by simp [waits, Region.binds])
                  rw [q46] at r113
                  have r114 : a.tmps[114]? = some (vs 47) := by rw [ha]; exact fillA_get0 (j := 47) (by kernel_rfl) (by rw [hsz]; decide)
                  have q47 : vs 47 = .slice r10_A r10_n r10_c := hD 47 (by simp [waits, Region.binds])
                  rw [q47] at r114
                  have r120 : a.tmps[120]? = some (vs 53) := by rw [ha]; exact fillA_get0 (j := 53) (by kernel_rfl) (by rw [hsz]; decide)
                  have P53 : IsPlsV V8.heap.size [(0, 1), (0, 2), (0, 3), (1, 0), (1, 1)] (vs 53) W := hD 53 (by simp [waits, Region.binds])
                  obtain ⟨B120, d120, e120, hI120⟩ := P53
                  rw [e120] at r120
                  clear ha hU hD ha0
                  rw [if_pos (by simp [Region.wanted, yielded, r113])]
                  go_simp
                  refine (same7_any W (H_r10.out W hC) hI120).mono ?_
                  rintro e w' ⟨rfl, q, rfl⟩
                  rw [decide_eq_true rfl]
                  exact hK _ (bl_drewN hC q) (bl_drewN (Below.refl _ _) q)
                · -- 55
                  intro vs a W K ha hC hD hU hK
                  have r113 : a.tmps[113]? = some (vs 46) := by rw [ha]; exact fillA_get0 (j := 46) (by kernel_rfl) (by rw [hsz]; decide)
                  have q46 : vs 46 = .bool true := hD 46 (by simp [waits, Region.binds])
                  rw [q46] at r113
                  have r121 : a.tmps[121]? = some (vs 54) := by rw [ha]; exact fillA_get0 (j := 54) (by kernel_rfl) (by rw [hsz]; decide)
                  have q54 : vs 54 = .bool true := hD 54 (by simp [waits, Region.binds])
                  rw [q54] at r121
                  clear ha hU hD ha0
                  rw [if_pos (by rfl)]
                  go_simp
                  exact hK _ hC (Below.refl _ _)
                · -- 56
                  intro vs a W K ha hC hD hU hK
                  have r122 : a.tmps[122]? = some (vs 55) := by rw [ha]; exact fillA_get0 (j := 55) (by kernel_rfl) (by rw [hsz]; decide)
                  have q55 : vs 55 = .bool true := hD 55 (by simp [waits, Region.binds])
                  rw [q55] at r122
                  clear ha hU hD ha0
                  rw [if_pos (by rfl)]
                  go_simp
                  exact hK _ hC (Below.refl _ _)
                · -- 57
                  intro vs a W K ha hC hD hU hK
                  have r123 : a.tmps[123]? = some (vs 56) := by rw [ha]; exact fillA_get0 (j := 56) (by kernel_rfl) (by rw [hsz]; decide)
                  have q56 : vs 56 = .bool true := hD 56 (by simp [waits, Region.binds])
                  rw [q56] at r123
                  have r12 : a.tmps[12]? = some (.slice r12_A r12_n r12_c) := by rw [ha, fillA_base0 (by kernel_rfl)]; exact tb12
                  clear ha hU hD ha0
                  rw [if_pos (by simp [Region.wanted, yielded, r123])]
                  go_simp
                  exact hK _ hC (Below.refl _ _)
                · -- 58
                  intro vs a W K ha hC hD hU hK
                  have r123 : a.tmps[123]? = some (vs 56) := by rw [ha]; exact fillA_get0 (j := 56) (by kernel_rfl) (by rw [hsz]; decide)
                  have q56 : vs 56 = .bool true := hD 56 (by simp [waits, Region.binds])
                  rw [q56] at r123
                  clear ha hU hD ha0
                  rw [if_pos (by simp [Region.wanted, yielded, r123])]
                  go_simp
                  refine (at7_any 1 0 W).mono ?_
                  rintro e w' ⟨rfl, hb⟩
                  exact hK _ (bl_call hC hb (Nat.le_refl _)) hb
                · -- 59
                  intro vs a W K ha hC hD hU hK
                  have r123 : a.tmps[123]? = some (vs 56) := by rw [ha]; exact fillA_get0 (j := 56) (by kernel_rfl) (by rw [hsz]; decide)
                  have q56 : vs 56 = .bool true := hD 56 (by simp [waits, Region.binds])
                  rw [q56] at r123
                  clear ha hU hD ha0
                  rw [if_pos (by simp [Region.wanted, yielded, r123])]
                  go_simp
                  refine (at7_any 1 1 W).mono ?_
                  rintro e w' ⟨rfl, hb⟩
                  exact hK _ (bl_call hC hb (Nat.le_refl _)) hb
                · -- 60
                  intro vs a W K ha hC hD hU hK
                  have r123 : a.tmps[123]? = some (vs 56) := by rw [ha]; exact fillA_get0 (j := 56) (by kernel_rfl) (by rw [hsz]; decide)
                  have q56 : vs 56 = .bool true := hD 56 (by simp [waits, Region.binds])
                  rw [q56] at r123
                  have r125 : a.tmps[125]? = some (vs 58) := by rw [ha]; exact fillA_get0 (j := 58) (by kernel_rfl) (by rw [hsz]; decide)
                  have q58 : vs 58 = .agg #[.int .i64 1, .int .i64 0] := hD 58 (by simp [waits, Region.binds])
                  rw [q58] at r125
                  have r126 : a.tmps[126]? = some (vs 59) := by rw [ha]; exact fillA_get0 (j := 59) (by kernel_rfl) (by rw [hsz]; decide)
                  have q59 : vs 59 = .agg #[.int .i64 1, .int .i64 1] := hD 59 (by simp [waits, Region.binds])
                  rw [q59] at r126
                  clear ha hU hD ha0
                  rw [if_pos (by simp [Region.wanted, yielded, r123])]
                  go_simp
                  exact hK _ _ (bl_alloc hC _ (Nat.le_refl _)) (bl_alloc (Below.refl _ _) _ (Nat.le_refl _)) (IsPlsV.new [(1, 0), (1, 1)] _ (by rfl) (by decide) hC.size)
                · -- 61
                  intro vs a W K ha hC hD hU hK
                  have r123 : a.tmps[123]? = some (vs 56) := by rw [ha]; exact fillA_get0 (j := 56) (by kernel_rfl) (by rw [hsz]; decide)
                  have q56 : vs 56 = .bool true := hD 56 (by simp [waits, Region.binds])
                  rw [q56] at r123
                  have r124 : a.tmps[124]? = some (vs 57) := by rw [ha]; exact fillA_get0 (j := 57) (by kernel_rfl) (by rw [hsz]; decide)
                  have q57 : vs 57 = .slice r12_A r12_n r12_c := hD 57 (by simp [waits, Region.binds])
                  rw [q57] at r124
                  have r127 : a.tmps[127]? = some (vs 60) := by rw [ha]; exact fillA_get0 (j := 60) (by kernel_rfl) (by rw [hsz]; decide)
                  have P60 : IsPlsV V8.heap.size [(1, 0), (1, 1)] (vs 60) W := hD 60 (by simp [waits, Region.binds])
                  obtain ⟨B127, d127, e127, hI127⟩ := P60
                  rw [e127] at r127
                  clear ha hU hD ha0
                  rw [if_pos (by simp [Region.wanted, yielded, r123])]
                  go_simp
                  refine (same7_any W (H_r12.out W hC) hI127).mono ?_
                  rintro e w' ⟨rfl, q, rfl⟩
                  rw [decide_eq_true rfl]
                  exact hK _ (bl_drewN hC q) (bl_drewN (Below.refl _ _) q)
                · -- 62
                  intro vs a W K ha hC hD hU hK
                  have r123 : a.tmps[123]? = some (vs 56) := by rw [ha]; exact fillA_get0 (j := 56) (by kernel_rfl) (by rw [hsz]; decide)
                  have q56 : vs 56 = .bool true := hD 56 (by simp [waits, Region.binds])
                  rw [q56] at r123
                  have r128 : a.tmps[128]? = some (vs 61) := by rw [ha]; exact fillA_get0 (j := 61) (by kernel_rfl) (by rw [hsz]; decide)
                  have q61 : vs 61 = .bool true := hD 61 (by simp [waits, Region.binds])
                  rw [q61] at r128
                  clear ha hU hD ha0
                  rw [if_pos (by rfl)]
                  go_simp
                  exact hK _ hC (Below.refl _ _)
                · -- 63
                  intro vs a W K ha hC hD hU hK
                  have r129 : a.tmps[129]? = some (vs 62) := by rw [ha]; exact fillA_get0 (j := 62) (by kernel_rfl) (by rw [hsz]; decide)
                  have q62 : vs 62 = .bool true := hD 62 (by simp [waits, Region.binds])
                  rw [q62] at r129
                  clear ha hU hD ha0
                  rw [if_pos (by rfl)]
                  go_simp
                  exact hK _ hC (Below.refl _ _)
                · -- 64
                  intro vs a W K ha hC hD hU hK
                  have r130 : a.tmps[130]? = some (vs 63) := by rw [ha]; exact fillA_get0 (j := 63) (by kernel_rfl) (by rw [hsz]; decide)
                  have q63 : vs 63 = .bool true := hD 63 (by simp [waits, Region.binds])
                  rw [q63] at r130
                  have r13 : a.tmps[13]? = some (.slice r13_A r13_n r13_c) := by rw [ha, fillA_base0 (by kernel_rfl)]; exact tb13
                  clear ha hU hD ha0
                  rw [if_pos (by simp [Region.wanted, yielded, r130])]
                  go_simp
                  exact hK _ hC (Below.refl _ _)
                · -- 65
                  intro vs a W K ha hC hD hU hK
                  have r130 : a.tmps[130]? = some (vs 63) := by rw [ha]; exact fillA_get0 (j := 63) (by kernel_rfl) (by rw [hsz]; decide)
                  have q63 : vs 63 = .bool true := hD 63 (by simp [waits, Region.binds])
                  rw [q63] at r130
                  clear ha hU hD ha0
                  rw [if_pos (by simp [Region.wanted, yielded, r130])]
                  go_simp
                  exact hK _ _ (bl_alloc hC _ (Nat.le_refl _)) (bl_alloc (Below.refl _ _) _ (Nat.le_refl _)) (IsIntsV.new [1] _ (by decide) hC.size)
                · -- 66
                  intro vs a W K ha hC hD hU hK
                  have r130 : a.tmps[130]? = some (vs 63) := by rw [ha]; exact fillA_get0 (j := 63) (by kernel_rfl) (by rw [hsz]; decide)
                  have q63 : vs 63 = .bool true := hD 63 (by simp [waits, Region.binds])
                  rw [q63] at r130
                  have r131 : a.tmps[131]? = some (vs 64) := by rw [ha]; exact fillA_get0 (j := 64) (by kernel_rfl) (by rw [hsz]; decide)
                  have q64 : vs 64 = .slice r13_A r13_n r13_c := hD 64 (by simp [waits, Region.binds])
                  rw [q64] at r131
                  have r132 : a.tmps[132]? = some (vs 65) := by rw [ha]; exact fillA_get0 (j := 65) (by kernel_rfl) (by rw [hsz]; decide)
                  have P65 : IsIntsV V8.heap.size [1] (vs 65) W := hD 65 (by simp [waits, Region.binds])
                  obtain ⟨B132, d132, e132, hI132⟩ := P65
                  rw [e132] at r132
                  clear ha hU hD ha0
                  rw [if_pos (by simp [Region.wanted, yielded, r130])]
                  go_simp
                  refine (ints_any W (H_r13.out W hC) hI132).mono ?_
                  rintro e w' ⟨rfl, q, rfl⟩
                  rw [decide_eq_true rfl]
                  exact hK _ (bl_drewN hC q) (bl_drewN (Below.refl _ _) q)
                · -- 67
                  intro vs a W K ha hC hD hU hK
                  have r130 : a.tmps[130]? = some (vs 63) := by rw [ha]; exact fillA_get0 (j := 63) (by kernel_rfl) (by rw [hsz]; decide)
                  have q63 : vs 63 = .bool true := hD 63 (by simp [waits, Region.binds])
                  rw [q63] at r130
                  have r133 : a.tmps[133]? = some (vs 66) := by rw [ha]; exact fillA_get0 (j := 66) (by kernel_rfl) (by rw [hsz]; decide)
                  have q66 : vs 66 = .bool true := hD 66 (by simp [waits, Region.binds])
                  rw [q66] at r133
                  clear ha hU hD ha0
                  rw [if_pos (by rfl)]
                  go_simp
                  exact hK _ hC (Below.refl _ _)
                · -- 68
                  intro vs a W K ha hC hD hU hK
                  have r134 : a.tmps[134]? = some (vs 67) := by rw [ha]; exact fillA_get0 (j := 67) (by kernel_rfl) (by rw [hsz]; decide)
                  have q67 : vs 67 = .bool true := hD 67 (by simp [waits, Region.binds])
                  rw [q67] at r134
                  clear ha hU hD ha0
                  rw [if_pos (by rfl)]
                  go_simp
                  exact hK _ hC (Below.refl _ _)
                · -- 69
                  intro vs a W K ha hC hD hU hK
                  have r135 : a.tmps[135]? = some (vs 68) := by rw [ha]; exact fillA_get0 (j := 68) (by kernel_rfl) (by rw [hsz]; decide)
                  have q68 : vs 68 = .bool true := hD 68 (by simp [waits, Region.binds])
                  rw [q68] at r135
                  have r15 : a.tmps[15]? = some (.slice r15_A r15_n r15_c) := by rw [ha, fillA_base0 (by kernel_rfl)]; exact tb15
                  clear ha hU hD ha0
                  rw [if_pos (by simp [Region.wanted, yielded, r135])]
                  go_simp
                  exact hK _ hC (Below.refl _ _)
                · -- 70
                  intro vs a W K ha hC hD hU hK
                  have r135 : a.tmps[135]? = some (vs 68) := by rw [ha]; exact fillA_get0 (j := 68) (by kernel_rfl) (by rw [hsz]; decide)
                  have q68 : vs 68 = .bool true := hD 68 (by simp [waits, Region.binds])
                  rw [q68] at r135
                  clear ha hU hD ha0
                  rw [if_pos (by simp [Region.wanted, yielded, r135])]
                  go_simp
                  exact hK _ _ (bl_alloc hC _ (Nat.le_refl _)) (bl_alloc (Below.refl _ _) _ (Nat.le_refl _)) (IsIntsV.new [1] _ (by decide) hC.size)
                · -- 71
                  intro vs a W K ha hC hD hU hK
                  have r135 : a.tmps[135]? = some (vs 68) := by rw [ha]; exact fillA_get0 (j := 68) (by kernel_rfl) (by rw [hsz]; decide)
                  have q68 : vs 68 = .bool true := hD 68 (by simp [waits, Region.binds])
                  rw [q68] at r135
                  have r136 : a.tmps[136]? = some (vs 69) := by rw [ha]; exact fillA_get0 (j := 69) (by kernel_rfl) (by rw [hsz]; decide)
                  have q69 : vs 69 = .slice r15_A r15_n r15_c := hD 69 (by simp [waits, Region.binds])
                  rw [q69] at r136
                  have r137 : a.tmps[137]? = some (vs 70) := by rw [ha]; exact fillA_get0 (j := 70) (by kernel_rfl) (by rw [hsz]; decide)
                  have P70 : IsIntsV V8.heap.size [1] (vs 70) W := hD 70 (by simp [waits, Region.binds])
                  obtain ⟨B137, d137, e137, hI137⟩ := P70
                  rw [e137] at r137
                  clear ha hU hD ha0
                  rw [if_pos (by simp [Region.wanted, yielded, r135])]
                  go_simp
                  refine (ints_any W (H_r15.out W hC) hI137).mono ?_
                  rintro e w' ⟨rfl, q, rfl⟩
                  rw [decide_eq_true rfl]
                  exact hK _ (bl_drewN hC q) (bl_drewN (Below.refl _ _) q)
                · -- 72
                  intro vs a W K ha hC hD hU hK
                  have r135 : a.tmps[135]? = some (vs 68) := by rw [ha]; exact fillA_get0 (j := 68) (by kernel_rfl) (by rw [hsz]; decide)
                  have q68 : vs 68 = .bool true := hD 68 (by simp [waits, Region.binds])
                  rw [q68] at r135
                  have r138 : a.tmps[138]? = some (vs 71) := by rw [ha]; exact fillA_get0 (j := 71) (by kernel_rfl) (by rw [hsz]; decide)
                  have q71 : vs 71 = .bool true := hD 71 (by simp [waits, Region.binds])
                  rw [q71] at r138
                  clear ha hU hD ha0
                  rw [if_pos (by rfl)]
                  go_simp
                  exact hK _ hC (Below.refl _ _)
                · -- 73
                  intro vs a W K ha hC hD hU hK
                  have r139 : a.tmps[139]? = some (vs 72) := by rw [ha]; exact fillA_get0 (j := 72) (by kernel_rfl) (by rw [hsz]; decide)
                  have q72 : vs 72 = .bool true := hD 72 (by simp [waits, Region.binds])
                  rw [q72] at r139
                  clear ha hU hD ha0
                  rw [if_pos (by rfl)]
                  go_simp
                  exact hK _ hC (Below.refl _ _)
                · -- 74
                  intro vs a W K ha hC hD hU hK
                  have r140 : a.tmps[140]? = some (vs 73) := by rw [ha]; exact fillA_get0 (j := 73) (by kernel_rfl) (by rw [hsz]; decide)
                  have q73 : vs 73 = .bool true := hD 73 (by simp [waits, Region.binds])
                  rw [q73] at r140
                  clear ha hU hD ha0
                  rw [if_pos (by simp [Region.wanted, yielded, r140])]
                  go_simp
                  refine (awake7_any W).mono ?_
                  rintro e w' ⟨rfl, hb⟩
                  exact hK _ (bl_call hC hb (Nat.le_refl _)) hb
                · -- 75
                  intro vs a W K ha hC hD hU hK
                  have r140 : a.tmps[140]? = some (vs 73) := by rw [ha]; exact fillA_get0 (j := 73) (by kernel_rfl) (by rw [hsz]; decide)
                  have q73 : vs 73 = .bool true := hD 73 (by simp [waits, Region.binds])
                  rw [q73] at r140
                  have r141 : a.tmps[141]? = some (vs 74) := by rw [ha]; exact fillA_get0 (j := 74) (by kernel_rfl) (by rw [hsz]; decide)
                  have q74 : vs 74 = .bool true := hD 74 (by simp [waits, Region.binds])
                  rw [q74] at r141
                  clear ha hU hD ha0
                  rw [if_pos (by rfl)]
                  go_simp
                  exact hK _ hC (Below.refl _ _)
                · -- 76
                  intro vs a W K ha hC hD hU hK
                  have r142 : a.tmps[142]? = some (vs 75) := by rw [ha]; exact fillA_get0 (j := 75) (by kernel_rfl) (by rw [hsz]; decide)
                  have q75 : vs 75 = .bool true := hD 75 (by simp [waits, Region.binds])
                  rw [q75] at r142
                  clear ha hU hD ha0
                  rw [if_pos (by rfl)]
                  go_simp
                  exact hK _ hC (Below.refl _ _)
              case finT =>
                refine Fin1.none (Nat.le_refl _) ?_
                intro vs W a1 hC hE ha
                have e0 : vs 76 = .bool true := hE 76 (by simp)
                have r0 : a1.tmps[0]? = some (vs 76) := by rw [ha]; exact fillA_get0 (j := 76) (by kernel_rfl) (by rw [hsz]; decide)
                have hdf1 : a1.defers = [] := by rw [ha, fillA_defers, ha0]
                rw [e0] at r0
                have hBF := bl_call (bl_call HBV.out HC10.out (Nat.le_refl _)) hC (Nat.le_refl _)
                clear ha hE hC e0
                go_simp
                go_wp2
                refine bodyPost_ret (results_tmp rfl _ _ _) hdf1 ?_
                exact ⟨by simp [r0], hBF⟩
end Go.Proofs.Ytnaadjhiahjlfaa
