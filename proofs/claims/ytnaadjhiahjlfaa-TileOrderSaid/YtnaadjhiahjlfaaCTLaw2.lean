/- Walks: Awake. -/
import Derived.Test.YtnaadjhiahjlfaaCTLaw1
import Derived.Test.YtnaadjhiahjlfaaCTMusts
import Derived.Test.YtnaadjhiahjlfaaCTRegs
set_option linter.unusedVariables false
set_option linter.unusedSimpArgs false
set_option linter.all false
namespace Go.Proofs.Ytnaadjhiahjlfaa
open Go.RowKit

theorem ints_blk {S : Foot} {W : World} {g : Nat} {t : TypeId} {xs : List Int} (hB : Blk W g t (xs.map (Value.int .i64)).toArray) (hS : S g) (hn : xs.length ≤ maxLen) : Ints S W (some ⟨g, 0, none⟩) xs.length xs :=
  slice_blk hB hS rfl hn (fun k x hk => ⟨[.int .i64 x], rfl, fun j u hu => by
    have hj : j < 1 := of_getq hu
    obtain rfl : j = 0 := by omega
    simp at hu; subst hu
    simp [hk]⟩)
/-- a slice of numbers, from a block on -/
def IsIntsV (B : Nat) (xs : List Int) (v : Value) (W : World) : Prop := ∃ (A : Nat) (c : Nat), v = .slice (some ⟨A, 0, none⟩) xs.length c ∧ Ints (fun k => B ≤ k) W (some ⟨A, 0, none⟩) xs.length xs
theorem IsIntsV.bl {B : Nat} {xs : List Int} {v : Value} {W V : World} (h : IsIntsV B xs v W) (hb : Below W.heap.size W V) : IsIntsV B xs v V := by
  obtain ⟨A, c, h1, h2⟩ := h
  exact ⟨A, c, h1, h2.keep IntR.good (Keeps.below hb)⟩
theorem IsIntsV.new {B : Nat} {W : World} (xs : List Int) (t : TypeId) (hn : xs.length ≤ maxLen) (hB : B ≤ W.heap.size) {c : Nat} : IsIntsV B xs (.slice (some ⟨W.heap.size, 0, none⟩) xs.length c) (W.alloc (.cells (xs.map (Value.int .i64)).toArray t)) :=
  ⟨_, _, rfl, ints_blk (Blk.new _ _ _ rfl) hB hn⟩
theorem IsSeen.bl {B : Nat} {v : Value} {W V : World} (h : IsSeen B v W) (hb : Below W.heap.size W V) : IsSeen B v V := by
  obtain ⟨A, c, h1, h2⟩ := h
  exact ⟨A, c, h1, h2.keep SeenR.good (Keeps.below hb)⟩

/-- a slice of two lists, from a block on -/
def IsRowsV (B : Nat) (xs : List (List Int)) (v : Value) (W : World) : Prop := ∃ (A : Nat) (c : Nat), v = .slice (some ⟨A, 0, none⟩) xs.length c ∧ Rows (fun k => B ≤ k) W (some ⟨A, 0, none⟩) xs.length xs
theorem IsRowsV.bl {B : Nat} {xs : List (List Int)} {v : Value} {W V : World} (h : IsRowsV B xs v W) (hb : Below W.heap.size W V) : IsRowsV B xs v V := by
  obtain ⟨A, c, h1, h2⟩ := h
  exact ⟨A, c, h1, h2.keep (SlR.good IntR.good) (Keeps.below hb)⟩
theorem IsRowsV.new {B n1 n2 : Nat} {W : World} {x y : List Int} {A1 A2 : Option Addr} {c1 c2 c : Nat} {t : TypeId} (h1 : Ints (fun k => B ≤ k) W A1 n1 x) (h2 : Ints (fun k => B ≤ k) W A2 n2 y) (hB : B ≤ W.heap.size) : IsRowsV B [x, y] (.slice (some ⟨W.heap.size, 0, none⟩) 2 c) (W.alloc (.cells #[.slice A1 n1 c1, .slice A2 n2 c2] t)) := by
  refine ⟨_, _, rfl, slice_blk (Blk.new _ _ _ rfl) hB rfl (show 2 ≤ maxLen by decide) ?_⟩
  intro k z hk
  have hk2 : k < 2 := of_getq hk
  have hc : k = 0 ∨ k = 1 := by omega
  rcases hc with rfl | rfl
  · obtain rfl : x = z := Option.some.inj hk
    refine ⟨[.slice A1 n1 c1], ⟨A1, n1, c1, rfl, h1.keep IntR.good (Keeps.alloc _ _)⟩, fun j u hu => ?_⟩
    have hj : j < 1 := of_getq hu
    obtain rfl : j = 0 := by omega
    exact hu
  · obtain rfl : y = z := Option.some.inj hk
    refine ⟨[.slice A2 n2 c2], ⟨A2, n2, c2, rfl, h2.keep IntR.good (Keeps.alloc _ _)⟩, fun j u hu => ?_⟩
    have hj : j < 1 := of_getq hu
    obtain rfl : j = 0 := by omega
    exact hu

theorem ex_w : width8 (exHall 12) [] 0 12 = ((1012, 1014), 0) := by decide +kernel
theorem ex_g : gapR (exHall 12) exSeen 0 [0, 2] = ((3, 7), 0) := by decide +kernel
theorem ex_y : whyR (exHall 12) [] 0 [2, 3] = (1, 11, 0) := by decide +kernel
theorem ex_a : airsR (exHall 12) [] 0 [0, 2] = ((8, 12), 0) := by decide +kernel
theorem ex_l : layR (exHall 12) [] = ([[0, 2], [3]], 7, 0) := by decide +kernel
theorem ex_m : must8 (exHall 9) [] = ([0, 2, 3], 0) := by decide +kernel
theorem ex_n : (layR (exHall 6) []).2.2 = 8 := by decide +kernel

/-- what the operations of the region with Seen and Gap promise -/
def awE (B : Nat) (hv : Value) : Nat → Bool → Value → World → Prop
  | 0, _, v, _ => v = hv
  | 1, b, v, W => b = false → IsSeen B v W
  | 2, b, v, W => b = false → IsIntsV B [0, 2] v W
  | 3, _, v, _ => v = .tuple #[.agg #[.int .i64 3, .int .i64 7], .int .i64 0]
  | 4, _, v, _ => v = .tuple #[.agg #[.int .i64 3, .int .i64 7], .int .i64 0]
  | 5, _, v, _ => v = .agg #[.int .i64 3, .int .i64 7]
  | 6, _, v, _ => v = .int .i64 0
  | 7, b, v, W => ∃ g, B ≤ g ∧ v = .pointer (some ⟨g, 0, none⟩) ∧ Blk W g 23 (if b then #[.int .i64 3, .int .i64 7] else #[.int .i64 0, .int .i64 0])
  | _, _, _, _ => True
theorem awE_stab (B : Nat) (hv : Value) : ∀ i b v w w', Below w.heap.size w w' → awE B hv i b v w → awE B hv i b v w'
  | 0, _, _, _, _, _, h => h
  | 1, _, _, _, _, hb, h => fun e => (h e).bl hb
  | 2, _, _, _, _, hb, h => fun e => (h e).bl hb
  | 3, _, _, _, _, _, h => h
  | 4, _, _, _, _, _, h => h
  | 5, _, _, _, _, _, h => h
  | 6, _, _, _, _, _, h => h
  | 7, _, _, _, _, hb, ⟨g, h1, h2, h3⟩ => ⟨g, h1, h2, h3.bl hb⟩
  | _ + 8, _, _, _, _, _, _ => trivial

set_option maxRecDepth 100000 in
set_option maxHeartbeats 2000000 in
theorem awake_any (w : World) :
    Calls Try.prog 12 #[] w fun e w' => e = .returned (.bool true) ∧ Below w.heap.size w w' := by
  go_enter Try.func12, Try.ntmps12
  go_wp2_with fail
  refine (hall34_any 12 w).mono ?_
  rintro e W1 ⟨⟨v, rfl, A1, B1, ca1, cb1, rfl, hH1, hca1⟩, b1⟩
  obtain ⟨W2, hW2⟩ : ∃ W2, W1.alloc (.cells #[.int .i64 10, .int .i64 12, .int .i64 12, .slice (some ⟨A1, 0, none⟩) 4 ca1, .slice (some ⟨B1, 0, none⟩) 2 cb1] 27) = W2 := ⟨_, rfl⟩
  have X1 : Blk W2 W1.heap.size 27 #[.int .i64 10, .int .i64 12, .int .i64 12, .slice (some ⟨A1, 0, none⟩) 4 ca1, .slice (some ⟨B1, 0, none⟩) 2 cb1] := by rw [← hW2]; exact Blk.new _ _ _ rfl
  have H1 : HallAt (fun _ => True) W2 (some ⟨A1, 0, none⟩) 4 (some ⟨B1, 0, none⟩) 2 (exHall 12) := by rw [← hW2]; exact (hH1.keep (Keeps.alloc _ _)).mono fun _ _ => trivial
  have Bq2 : Below w.heap.size w W2 := by rw [← hW2]; exact bl_alloc b1 _ (Nat.le_refl _)
  have x0 := X1.cell 0
  have x1 := X1.cell 1
  have x2 := X1.cell 2
  have x3 := X1.cell 3
  have x4 := X1.cell 4
  go_wp2_with fail
  clear hW2
  refine (twidth_any 0 12 W2 H1 (SliceOf.nil _ _ _ _ _) hca1 rfl rfl rfl).mono ?_
  rw [ex_w]
  rintro e W3 ⟨rfl, b3⟩
  obtain ⟨g2, hg2⟩ : ∃ g2, W3.heap.size = g2 := ⟨_, rfl⟩
  obtain ⟨W4, hW4⟩ : ∃ W4, W3.alloc (.cells #[.int .i64 1012, .int .i64 1014] 23) = W4 := ⟨_, rfl⟩
  have S2 : Blk W4 g2 23 #[.int .i64 1012, .int .i64 1014] := by rw [← hW4]; exact Blk.new _ _ _ hg2.symm
  have b24 : Below W2.heap.size W2 W4 := by rw [← hW4]; exact bl_alloc b3 _ (Nat.le_refl _)
  have X2 := X1.bl b24
  clear x0 x1 x2 x3 x4
  have x0 := X2.cell 0
  have x1 := X2.cell 1
  have x2 := X2.cell 2
  have x3 := X2.cell 3
  have x4 := X2.cell 4
  go_wp2_with fail
  clear hW4 hg2
  have H4 := Lib.hid (H1.keep (Keeps.below b24))
  have HX2 := Lib.hid X2
  clear x0 x1 x2 x3 x4
  have AS := Lib.hid (awE_stab W4.heap.size (.agg #[.int .i64 10, .int .i64 12, .int .i64 12, .slice (some ⟨A1, 0, none⟩) 4 ca1, .slice (some ⟨B1, 0, none⟩) 2 cb1]))
  refine wp_region_invs (InvE W4.heap.size W4 (awE W4.heap.size (.agg #[.int .i64 10, .int .i64 12, .int .i64 12, .slice (some ⟨A1, 0, none⟩) 4 ca1, .slice (some ⟨B1, 0, none⟩) 2 cb1])) 8) 9 (by kernel_rfl) (by kernel_rfl) (by kernel_rfl) (by rfl) ⟨(Below.refl _ _).drew, fun i h => by cases h⟩ ?step (by rfl) (by rfl) ?fin
  case step =>
    refine StepsI.cons ?_ (StepsI.cons ?_ (StepsI.cons ?_ (StepsI.cons ?_ (StepsI.cons ?_ (StepsI.cons ?_ (StepsI.cons ?_ (StepsI.cons ?_ (StepsI.cons ?_ StepsI.nil))))))))
    all_goals
      refine StepI.of ?_
      intro ls vs W K hI hl hw hU hK
      simp only [fillA, Act.put, List.setIfInBounds_toArray, List.set_cons_zero, List.set_cons_succ, Nat.zero_add, Nat.reduceAdd] at hK ⊢
      simp [waits, Region.binds] at hw
      have hC := hI.1
    · have hR := HX2.out.bl hC
      have k0 := hR.cell 0
      have k1 := hR.cell 1
      have k2 := hR.cell 2
      have k3 := hR.cell 3
      have k4 := hR.cell 4
      go_simp
      exact hK _ _ (hI.step AS.out (Below.refl _ _) hC.size (by decide) rfl)
    · go_simp
      refine (seen35_any W).mono ?_
      rintro e w' ⟨⟨v, rfl, A, c, hv, hS⟩, hb⟩
      have hsz := hC.size
      exact hK _ _ (hI.step AS.out hb hC.size (by decide) (fun _ => ⟨A, c, hv, hS.mono SeenR.good (fun k h => by omega)⟩))
    · go_simp
      exact hK _ _ (hI.step AS.out (bl_alloc (Below.refl _ _) _ (Nat.le_refl _)) hC.size (by decide) (fun _ => IsIntsV.new [0, 2] _ (by decide) hC.size))
    · have h8 : ls 8 = false := (hU 8 _ rfl (by simp [waits, Region.binds])).1
      have h1 : vs 0 = _ := hI.2 0 (by simp [hw])
      obtain ⟨Aq, cq, h2, hS⟩ := hI.2 1 (by simp [hw]) h8
      obtain ⟨A', c', h3, hIn⟩ := hI.2 2 (by simp [hw]) h8
      simp only [h1, h2, h3] at hK ⊢
      go_simp
      refine (tgap_any (h := exHall 12) (l := exSeen) (tl := [0, 2]) 0 W (H4.out.keep (Keeps.below hC)) (hS.mono SeenR.good (fun _ _ => trivial)) hIn hca1 rfl rfl rfl).mono ?_
      rw [ex_g]
      rintro e w' ⟨rfl, hb⟩
      exact hK _ _ (hI.step AS.out hb hC.size (by decide) rfl)
    · have h1 : vs 3 = _ := hI.2 3 (by simp [hw])
      simp only [h1] at hK ⊢
      go_simp
      exact hK _ _ (hI.step AS.out (Below.refl _ _) hC.size (by decide) rfl)
    · have h1 : vs 4 = _ := hI.2 4 (by simp [hw])
      simp only [h1] at hK ⊢
      go_simp
      exact hK _ _ (hI.step AS.out (Below.refl _ _) hC.size (by decide) rfl)
    · have h1 : vs 4 = _ := hI.2 4 (by simp [hw])
      simp only [h1] at hK ⊢
      go_simp
      exact hK _ _ (hI.step AS.out (Below.refl _ _) hC.size (by decide) rfl)
    · have h8 : ls 8 = false := (hU 8 _ rfl (by simp [waits, Region.binds])).1
      go_simp
      exact hK _ _ (hI.step AS.out (bl_alloc (Below.refl _ _) _ (Nat.le_refl _)) hC.size (by decide) ⟨_, hC.size, rfl, by rw [h8]; exact Blk.new _ _ _ rfl⟩)
    · have h1 : vs 5 = _ := hI.2 5 (by simp [hw])
      obtain ⟨g4, hg4, h4, hB4⟩ := hI.2 7 (by simp [hw])
      rw [hl] at hB4
      have z0 : W.cell? ⟨g4, 0, none⟩ = some (.int .i64 0) := hB4.cell 0
      have z1 : W.cell? ⟨g4, 1, none⟩ = some (.int .i64 0) := hB4.cell 1
      have fz0 := hB4.frozen 0
      have fz1 := hB4.frozen 1
      have hl4 := hB4.lt
      simp only [h1, h4] at hK ⊢
      go_simp
      refine hK undef _ ⟨bl_set (bl_set hC hg4 _) hg4 _, fun i hi => ?_⟩
      have hb8 : updB ls 8 8 = true := by unfold updB; rw [if_pos rfl]
      rw [hb8]
      match i, hi with
      | 0, hi => exact hI.2 0 hi
      | 1, _ => exact fun e => by cases e
      | 2, _ => exact fun e => by cases e
      | 3, hi => exact hI.2 3 hi
      | 4, hi => exact hI.2 4 hi
      | 5, hi => exact hI.2 5 hi
      | 6, hi => exact hI.2 6 hi
      | 7, _ => exact ⟨g4, hg4, h4, hB4.set2 _ _⟩
      | _ + 8, _ => trivial
  case fin =>
    intro ls vs W hI hl hU
    have e6 : vs 6 = _ := hI.2 6 (hl 6 (by decide))
    obtain ⟨g4, hg4, h4, hB4⟩ := hI.2 7 (hl 7 (by decide))
    rw [hl 8 (by decide)] at hB4
    have S4 : Blk W g4 23 #[.int .i64 3, .int .i64 7] := hB4
    have b4 := hI.1
    simp only [fillA, Act.put, List.setIfInBounds_toArray, List.set_cons_zero, List.set_cons_succ, Nat.zero_add, Nat.reduceAdd, e6, h4]
    obtain ⟨u0, hu0⟩ : ∃ v0, vs 0 = v0 := ⟨_, rfl⟩
    obtain ⟨u1, hu1⟩ : ∃ v0, vs 1 = v0 := ⟨_, rfl⟩
    obtain ⟨u2, hu2⟩ : ∃ v0, vs 2 = v0 := ⟨_, rfl⟩
    obtain ⟨u3, hu3⟩ : ∃ v0, vs 3 = v0 := ⟨_, rfl⟩
    obtain ⟨u4, hu4⟩ : ∃ v0, vs 4 = v0 := ⟨_, rfl⟩
    obtain ⟨u5, hu5⟩ : ∃ v0, vs 5 = v0 := ⟨_, rfl⟩
    rw [hu0, hu1, hu2, hu3, hu4, hu5]
    clear hI hl hU e6 h4 hB4 AS hu0 hu1 hu2 hu3 hu4 hu5
    have h5 := HX2.out.bl b4
    have x0 := h5.cell 0
    have x1 := h5.cell 1
    have x2 := h5.cell 2
    have x3 := h5.cell 3
    have x4 := h5.cell 4
    have HH := Lib.hid (H4.out.keep (Keeps.below b4))
    have s2 := S2.bl b4
    clear S2 HX2 H4
    go_simp
    go_wp2_with fail
    clear b3 X1 X2 H1 hH1
    refine (twhy_any (h := exHall 12) (l := []) (tl := [2, 3]) 0 _ (HH.out.keep (Keeps.alloc _ _)) (SliceOf.nil _ _ _ _ _) (ints_blk (xs := [2, 3]) (S := fun _ => True) (t := 3) (Blk.new _ _ _ rfl) trivial (by decide)) hca1 rfl rfl rfl).mono ?_
    rw [ex_y]
    rintro e V1 ⟨rfl, c1⟩
    have d1 : Below W.heap.size W V1 := bl_call (bl_alloc (Below.refl _ _) _ (Nat.le_refl _)) c1 (Nat.le_refl _)
    have y0 := getc d1 x0
    have y1 := getc d1 x1
    have y2 := getc d1 x2
    have y3 := getc d1 x3
    have y4 := getc d1 x4
    go_wp2_with fail
    clear y0 y1 y2 y3 y4
    refine (tairs_any (h := exHall 12) (l := []) (tl := [0, 2]) 0 _ ((HH.out.keep (Keeps.below d1)).keep (Keeps.alloc _ _)) (SliceOf.nil _ _ _ _ _) (ints_blk (xs := [0, 2]) (S := fun _ => True) (t := 3) (Blk.new _ _ _ rfl) trivial (by decide)) hca1 rfl rfl rfl).mono ?_
    rw [ex_a]
    rintro e V2 ⟨rfl, c2⟩
    have d2 : Below W.heap.size W V2 := bl_call (bl_alloc d1 _ (Nat.le_refl _)) c2 (Nat.le_refl _)
    obtain ⟨g9, hg9⟩ : ∃ g9, V2.heap.size = g9 := ⟨_, rfl⟩
    obtain ⟨V3, hV3⟩ : ∃ V3, V2.alloc (.cells #[.int .i64 8, .int .i64 12] 23) = V3 := ⟨_, rfl⟩
    have S9 : Blk V3 g9 23 #[.int .i64 8, .int .i64 12] := by rw [← hV3]; exact Blk.new _ _ _ hg9.symm
    have d3 : Below W.heap.size W V3 := by rw [← hV3]; exact bl_alloc d2 _ (Nat.le_refl _)
    have y0 := getc d3 x0
    have y1 := getc d3 x1
    have y2 := getc d3 x2
    have y3 := getc d3 x3
    have y4 := getc d3 x4
    go_wp2_with fail
    clear hV3 hg9 y0 y1 y2 y3 y4 c1 c2 d1 d2
    refine (tlay_any (h := exHall 12) (l := []) V3 (HH.out.keep (Keeps.below d3)) (SliceOf.nil _ _ _ _ _) hca1 rfl rfl rfl).mono ?_
    rw [ex_l]
    rintro e V4 ⟨c4, Al, nl, cl, rfl, hL⟩
    have d4 := bl_call d3 c4 (Nat.le_refl _)
    go_wp2_with fail
    refine (hall34_any 9 V4).mono ?_
    rintro e V5 ⟨⟨v, rfl, A2, B2, ca2, cb2, rfl, hH2, hca2⟩, c5⟩
    have d5 := bl_call d4 c5 (Nat.le_refl _)
    go_wp2_with fail
    refine (tmust_any (h := exHall 9) (l := []) V5 (hH2.mono fun _ _ => trivial) (SliceOf.nil _ _ _ _ _) hca2 rfl rfl rfl).mono ?_
    rw [ex_m]
    rintro e V6 ⟨c6, Am, nm, cm, rfl, hM⟩
    have d6 := bl_call d5 c6 (Nat.le_refl _)
    go_wp2_with fail
    refine (hall34_any 6 V6).mono ?_
    rintro e V7 ⟨⟨v, rfl, A3, B3, ca3, cb3, rfl, hH3, hca3⟩, c7⟩
    have d7 := bl_call d6 c7 (Nat.le_refl _)
    go_wp2_with fail
    refine (tlay_any (h := exHall 6) (l := []) V7 (hH3.mono fun _ _ => trivial) (SliceOf.nil _ _ _ _ _) hca3 rfl rfl rfl).mono ?_
    rintro e V8 ⟨c8, An, nn, cn, rfl, hN⟩
    rw [ex_n]
    have d8 := bl_call d7 c8 (Nat.le_refl _)
    generalize (layR (exHall 6) []).2.1 = zz
    have e48 : Below V4.heap.size V4 V8 := bl_call (bl_call (bl_call c5 c6 (Nat.le_refl _)) c7 (Nat.le_refl _)) c8 (Nat.le_refl _)
    have HL := Lib.hid (hL.keep (SlR.good IntR.good) (Keeps.below e48))
    have HM := Lib.hid (hM.keep IntR.good (Keeps.below (bl_call c7 c8 (Nat.le_refl _))))
    have T9 := S9.bl (bl_call c4 e48 (Nat.le_refl _))
    have T2 := s2.bl d8
    have T4 := S4.bl d8
    have D8 := Lib.hid d8
    have HB8 : Hid (Below w.heap.size w V8) := (bl_call (bl_call (bl_call Bq2 b24 (Nat.le_refl _)) b4 (Nat.le_refl _)) d8 (Nat.le_refl _))
    have kk : Hid (∀ V, Below V8.heap.size V8 V → V.cell? ⟨g2, 0, none⟩ = some (.int .i64 1012) ∧ V.cell? ⟨g2, 1, none⟩ = some (.int .i64 1014) ∧ V.cell? ⟨g4, 0, none⟩ = some (.int .i64 3) ∧ V.cell? ⟨g4, 1, none⟩ = some (.int .i64 7) ∧ V.cell? ⟨g9, 0, none⟩ = some (.int .i64 8) ∧ V.cell? ⟨g9, 1, none⟩ = some (.int .i64 12)) :=
      fun V hb => ⟨(T2.bl hb).c0, (T2.bl hb).c1, (T4.bl hb).c0, (T4.bl hb).c1, (T9.bl hb).c0, (T9.bl hb).c1⟩
    clear hL hM hN S9 s2 S4 d3 d4 d5 d6 d7 d8 c4 c5 c6 c7 c8 e48 x0 x1 x2 x3 x4 hH2 hH3 HH h5 T2 T4 T9 b4 b24 Bq2 D8
    go_wp2_with fail
    refine wp_frame ?_
    intro a0 hsz hget hdf
    have b3 : a0.tmps[3]? = some (.int .i64 0) := (hget 3).trans (by kernel_rfl)
    have b5 : a0.tmps[5]? = some (.int .i64 0) := (hget 5).trans (by kernel_rfl)
    have b8 : a0.tmps[8]? = some (.int .i64 0) := (hget 8).trans (by kernel_rfl)
    have b10 : a0.tmps[10]? = some (.int .i64 0) := (hget 10).trans (by kernel_rfl)
    have b13 : a0.tmps[13]? = some (.int .i64 0) := (hget 13).trans (by kernel_rfl)
    have b15 : a0.tmps[15]? = some (.int .i64 0) := (hget 15).trans (by kernel_rfl)
    have b18 : a0.tmps[18]? = some (.int .i64 8) := (hget 18).trans (by kernel_rfl)
    have b2 : a0.tmps[2]? = some (.pointer (some ⟨g2, 0, none⟩)) := (hget 2).trans (by kernel_rfl)
    have b4 : a0.tmps[4]? = some (.pointer (some ⟨g4, 0, none⟩)) := (hget 4).trans (by kernel_rfl)
    have b9 : a0.tmps[9]? = some (.pointer (some ⟨g9, 0, none⟩)) := (hget 9).trans (by kernel_rfl)
    have b6 : a0.tmps[6]? = some (.int .i64 1) := (hget 6).trans (by kernel_rfl)
    have b7 : a0.tmps[7]? = some (.int .i64 11) := (hget 7).trans (by kernel_rfl)
    have b11 : a0.tmps[11]? = some (.slice Al nl cl) := (hget 11).trans (by kernel_rfl)
    have b12 : a0.tmps[12]? = some (.int .i64 7) := (hget 12).trans (by kernel_rfl)
    have b14 : a0.tmps[14]? = some (.slice Am nm cm) := (hget 14).trans (by kernel_rfl)
    replace hsz : a0.tmps.size = 127 := hsz.trans (by kernel_rfl)
    replace hdf : a0.defers = [] := hdf
    clear hget
    refine wp_region_list (fun W => Below V8.heap.size V8 W) (fun w w' => Below w.heap.size w w')
      [isV (.int .i64 0), isV (.bool true), isV (.bool true), isV (.int .i64 0), isV (.bool true), isV (.bool true), isV (.bool true), isV (.int .i64 0), isV (.bool true), isV (.bool true), isV (.bool true), isV (.int .i64 0), isV (.bool true), isV (.bool true), isV (.bool true), isV (.int .i64 0), isV (.bool true), isV (.bool true), isV (.bool true), isV (.int .i64 0), isV (.bool true), isV (.bool true), isV (.bool true), isV (.int .i64 8), isV (.bool true), isV (.bool true), isV (.bool true), isV (.agg #[.int .i64 1012, .int .i64 1014]), isV (.agg #[.int .i64 1012, .int .i64 1014]), isV (.bool true), isV (.bool true), isV (.bool true), isV (.agg #[.int .i64 3, .int .i64 7]), isV (.agg #[.int .i64 3, .int .i64 7]), isV (.bool true), isV (.bool true), isV (.bool true), isV (.int .i64 1), isV (.bool true), isV (.bool true), isV (.bool true), isV (.int .i64 11), isV (.bool true), isV (.bool true), isV (.bool true), isV (.agg #[.int .i64 8, .int .i64 12]), isV (.agg #[.int .i64 8, .int .i64 12]), isV (.bool true), isV (.bool true), isV (.bool true), isV (.slice Al nl cl), IsIntsV V8.heap.size [0, 2], IsIntsV V8.heap.size [3], IsRowsV V8.heap.size [[0, 2], [3]], isV (.bool true), isV (.bool true), isV (.bool true), isV (.int .i64 7), isV (.bool true), isV (.bool true), isV (.bool true), isV (.slice Am nm cm), IsIntsV V8.heap.size [0, 2, 3], isV (.bool true), isV (.bool true), isV (.bool true)]
      (by kernel_rfl) (by kernel_rfl) (by kernel_rfl) (by simp) (by simp) (Below.refl _ _).drew ?stabA ?stepA ?finA
    case stabA => exact (StabL.is (StabL.is (StabL.is (StabL.is (StabL.is (StabL.is (StabL.is (StabL.is (StabL.is (StabL.is (StabL.is (StabL.is (StabL.is (StabL.is (StabL.is (StabL.is (StabL.is (StabL.is (StabL.is (StabL.is (StabL.is (StabL.is (StabL.is (StabL.is (StabL.is (StabL.is (StabL.is (StabL.is (StabL.is (StabL.is (StabL.is (StabL.is (StabL.is (StabL.is (StabL.is (StabL.is (StabL.is (StabL.is (StabL.is (StabL.is (StabL.is (StabL.is (StabL.is (StabL.is (StabL.is (StabL.is (StabL.is (StabL.is (StabL.is (StabL.is (StabL.is (StabL.cons (fun v W V hC hX h => h.bl hX) (StabL.cons (fun v W V hC hX h => h.bl hX) (StabL.cons (fun v W V hC hX h => h.bl hX) (StabL.is (StabL.is (StabL.is (StabL.is (StabL.is (StabL.is (StabL.is (StabL.is (StabL.cons (fun v W V hC hX h => h.bl hX) (StabL.is (StabL.is (StabL.is StabL.nil))))))))))))))))))))))))))))))))))))))))))))))))))))))))))))))))))
    case stepA =>
      refine StepsL.isA ?_ (StepsL.isA ?_ (StepsL.isA ?_ (StepsL.isA ?_ (StepsL.isA ?_ (StepsL.isA ?_ (StepsL.isA ?_ (StepsL.isA ?_ (StepsL.isA ?_ (StepsL.isA ?_ (StepsL.isA ?_ (StepsL.isA ?_ (StepsL.isA ?_ (StepsL.isA ?_ (StepsL.isA ?_ (StepsL.isA ?_ (StepsL.isA ?_ (StepsL.isA ?_ (StepsL.isA ?_ (StepsL.isA ?_ (StepsL.isA ?_ (StepsL.isA ?_ (StepsL.isA ?_ (StepsL.isA ?_ (StepsL.isA ?_ (StepsL.isA ?_ (StepsL.isA ?_ (StepsL.isA ?_ (StepsL.isA ?_ (StepsL.isA ?_ (StepsL.isA ?_ (StepsL.isA ?_ (StepsL.isA ?_ (StepsL.isA ?_ (StepsL.isA ?_ (StepsL.isA ?_ (StepsL.isA ?_ (StepsL.isA ?_ (StepsL.isA ?_ (StepsL.isA ?_ (StepsL.isA ?_ (StepsL.isA ?_ (StepsL.isA ?_ (StepsL.isA ?_ (StepsL.isA ?_ (StepsL.isA ?_ (StepsL.isA ?_ (StepsL.isA ?_ (StepsL.isA ?_ (StepsL.isA ?_ (StepsL.isA ?_ (StepsL.consA ?_ (StepsL.consA ?_ (StepsL.consA ?_ (StepsL.isA ?_ (StepsL.isA ?_ (StepsL.isA ?_ (StepsL.isA ?_ (StepsL.isA ?_ (StepsL.isA ?_ (StepsL.isA ?_ (StepsL.isA ?_ (StepsL.consA ?_ (StepsL.isA ?_ (StepsL.isA ?_ (StepsL.isA ?_ StepsL.nil)))))))))))))))))))))))))))))))))))))))))))))))))))))))))))))))))
      · -- 0
        intro vs a W K ha hC hD hU hK
        have r3 : a.tmps[3]? = some (.int .i64 0) := by rw [ha, fillA_base0 (by kernel_rfl)]; exact b3
        clear ha hU hD
        rw [if_pos (by rfl)]
        go_simp
        exact hK _ hC (Below.refl _ _)
      · -- 1
        intro vs a W K ha hC hD hU hK
        have r62 : a.tmps[62]? = some (vs 0) := by rw [ha]; exact fillA_get0 (j := 0) (by kernel_rfl) (by rw [hsz]; decide)
        have q0 : vs 0 = .int .i64 0 := hD 0 (by simp [waits, Region.binds])
        rw [q0] at r62
        clear ha hU hD
        rw [if_pos (by rfl)]
        go_simp
        exact hK _ hC (Below.refl _ _)
      · -- 2
        intro vs a W K ha hC hD hU hK
        have r63 : a.tmps[63]? = some (vs 1) := by rw [ha]; exact fillA_get0 (j := 1) (by kernel_rfl) (by rw [hsz]; decide)
        have q1 : vs 1 = .bool true := hD 1 (by simp [waits, Region.binds])
        rw [q1] at r63
        clear ha hU hD
        rw [if_pos (by rfl)]
        go_simp
        exact hK _ hC (Below.refl _ _)
      · -- 3
        intro vs a W K ha hC hD hU hK
        have r64 : a.tmps[64]? = some (vs 2) := by rw [ha]; exact fillA_get0 (j := 2) (by kernel_rfl) (by rw [hsz]; decide)
        have q2 : vs 2 = .bool true := hD 2 (by simp [waits, Region.binds])
        rw [q2] at r64
        have r5 : a.tmps[5]? = some (.int .i64 0) := by rw [ha, fillA_base0 (by kernel_rfl)]; exact b5
        clear ha hU hD
        rw [if_pos (by simp [Region.wanted, yielded, r64])]
        go_simp
        exact hK _ hC (Below.refl _ _)
      · -- 4
        intro vs a W K ha hC hD hU hK
        have r64 : a.tmps[64]? = some (vs 2) := by rw [ha]; exact fillA_get0 (j := 2) (by kernel_rfl) (by rw [hsz]; decide)
        have q2 : vs 2 = .bool true := hD 2 (by simp [waits, Region.binds])
        rw [q2] at r64
        have r65 : a.tmps[65]? = some (vs 3) := by rw [ha]; exact fillA_get0 (j := 3) (by kernel_rfl) (by rw [hsz]; decide)
        have q3 : vs 3 = .int .i64 0 := hD 3 (by simp [waits, Region.binds])
        rw [q3] at r65
        clear ha hU hD
        rw [if_pos (by simp [Region.wanted, yielded, r64])]
        go_simp
        exact hK _ hC (Below.refl _ _)
      · -- 5
        intro vs a W K ha hC hD hU hK
        have r64 : a.tmps[64]? = some (vs 2) := by rw [ha]; exact fillA_get0 (j := 2) (by kernel_rfl) (by rw [hsz]; decide)
        have q2 : vs 2 = .bool true := hD 2 (by simp [waits, Region.binds])
        rw [q2] at r64
        have r66 : a.tmps[66]? = some (vs 4) := by rw [ha]; exact fillA_get0 (j := 4) (by kernel_rfl) (by rw [hsz]; decide)
        have q4 : vs 4 = .bool true := hD 4 (by simp [waits, Region.binds])
        rw [q4] at r66
        clear ha hU hD
        rw [if_pos (by rfl)]
        go_simp
        exact hK _ hC (Below.refl _ _)
      · -- 6
        intro vs a W K ha hC hD hU hK
        have r67 : a.tmps[67]? = some (vs 5) := by rw [ha]; exact fillA_get0 (j := 5) (by kernel_rfl) (by rw [hsz]; decide)
        have q5 : vs 5 = .bool true := hD 5 (by simp [waits, Region.binds])
        rw [q5] at r67
        clear ha hU hD
        rw [if_pos (by rfl)]
        go_simp
        exact hK _ hC (Below.refl _ _)
      · -- 7
        intro vs a W K ha hC hD hU hK
        have r68 : a.tmps[68]? = some (vs 6) := by rw [ha]; exact fillA_get0 (j := 6) (by kernel_rfl) (by rw [hsz]; decide)
        have q6 : vs 6 = .bool true := hD 6 (by simp [waits, Region.binds])
        rw [q6] at r68
        have r8 : a.tmps[8]? = some (.int .i64 0) := by rw [ha, fillA_base0 (by kernel_rfl)]; exact b8
        clear ha hU hD
        rw [if_pos (by simp [Region.wanted, yielded, r68])]
        go_simp
        exact hK _ hC (Below.refl _ _)
      · -- 8
        intro vs a W K ha hC hD hU hK
        have r68 : a.tmps[68]? = some (vs 6) := by rw [ha]; exact fillA_get0 (j := 6) (by kernel_rfl) (by rw [hsz]; decide)
        have q6 : vs 6 = .bool true := hD 6 (by simp [waits, Region.binds])
        rw [q6] at r68
        have r69 : a.tmps[69]? = some (vs 7) := by rw [ha]; exact fillA_get0 (j := 7) (by kernel_rfl) (by rw [hsz]; decide)
        have q7 : vs 7 = .int .i64 0 := hD 7 (by simp [waits, Region.binds])
        rw [q7] at r69
        clear ha hU hD
        rw [if_pos (by simp [Region.wanted, yielded, r68])]
        go_simp
        exact hK _ hC (Below.refl _ _)
      · -- 9
        intro vs a W K ha hC hD hU hK
        have r68 : a.tmps[68]? = some (vs 6) := by rw [ha]; exact fillA_get0 (j := 6) (by kernel_rfl) (by rw [hsz]; decide)
        have q6 : vs 6 = .bool true := hD 6 (by simp [waits, Region.binds])
        rw [q6] at r68
        have r70 : a.tmps[70]? = some (vs 8) := by rw [ha]; exact fillA_get0 (j := 8) (by kernel_rfl) (by rw [hsz]; decide)
        have q8 : vs 8 = .bool true := hD 8 (by simp [waits, Region.binds])
        rw [q8] at r70
        clear ha hU hD
        rw [if_pos (by rfl)]
        go_simp
        exact hK _ hC (Below.refl _ _)
      · -- 10
        intro vs a W K ha hC hD hU hK
        have r71 : a.tmps[71]? = some (vs 9) := by rw [ha]; exact fillA_get0 (j := 9) (by kernel_rfl) (by rw [hsz]; decide)
        have q9 : vs 9 = .bool true := hD 9 (by simp [waits, Region.binds])
        rw [q9] at r71
        clear ha hU hD
        rw [if_pos (by rfl)]
        go_simp
        exact hK _ hC (Below.refl _ _)
      · -- 11
        intro vs a W K ha hC hD hU hK
        have r72 : a.tmps[72]? = some (vs 10) := by rw [ha]; exact fillA_get0 (j := 10) (by kernel_rfl) (by rw [hsz]; decide)
        have q10 : vs 10 = .bool true := hD 10 (by simp [waits, Region.binds])
        rw [q10] at r72
        have r10 : a.tmps[10]? = some (.int .i64 0) := by rw [ha, fillA_base0 (by kernel_rfl)]; exact b10
        clear ha hU hD
        rw [if_pos (by simp [Region.wanted, yielded, r72])]
        go_simp
        exact hK _ hC (Below.refl _ _)
      · -- 12
        intro vs a W K ha hC hD hU hK
        have r72 : a.tmps[72]? = some (vs 10) := by rw [ha]; exact fillA_get0 (j := 10) (by kernel_rfl) (by rw [hsz]; decide)
        have q10 : vs 10 = .bool true := hD 10 (by simp [waits, Region.binds])
        rw [q10] at r72
        have r73 : a.tmps[73]? = some (vs 11) := by rw [ha]; exact fillA_get0 (j := 11) (by kernel_rfl) (by rw [hsz]; decide)
        have q11 : vs 11 = .int .i64 0 := hD 11 (by simp [waits, Region.binds])
        rw [q11] at r73
        clear ha hU hD
        rw [if_pos (by simp [Region.wanted, yielded, r72])]
        go_simp
        exact hK _ hC (Below.refl _ _)
      · -- 13
        intro vs a W K ha hC hD hU hK
        have r72 : a.tmps[72]? = some (vs 10) := by rw [ha]; exact fillA_get0 (j := 10) (by kernel_rfl) (by rw [hsz]; decide)
        have q10 : vs 10 = .bool true := hD 10 (by simp [waits, Region.binds])
        rw [q10] at r72
        have r74 : a.tmps[74]? = some (vs 12) := by rw [ha]; exact fillA_get0 (j := 12) (by kernel_rfl) (by rw [hsz]; decide)
        have q12 : vs 12 = .bool true := hD 12 (by simp [waits, Region.binds])
        rw [q12] at r74
        clear ha hU hD
        rw [if_pos (by rfl)]
        go_simp
        exact hK _ hC (Below.refl _ _)
      · -- 14
        intro vs a W K ha hC hD hU hK
        have r75 : a.tmps[75]? = some (vs 13) := by rw [ha]; exact fillA_get0 (j := 13) (by kernel_rfl) (by rw [hsz]; decide)
        have q13 : vs 13 = .bool true := hD 13 (by simp [waits, Region.binds])
        rw [q13] at r75
        clear ha hU hD
        rw [if_pos (by rfl)]
        go_simp
        exact hK _ hC (Below.refl _ _)
      · -- 15
        intro vs a W K ha hC hD hU hK
        have r76 : a.tmps[76]? = some (vs 14) := by rw [ha]; exact fillA_get0 (j := 14) (by kernel_rfl) (by rw [hsz]; decide)
        have q14 : vs 14 = .bool true := hD 14 (by simp [waits, Region.binds])
        rw [q14] at r76
        have r13 : a.tmps[13]? = some (.int .i64 0) := by rw [ha, fillA_base0 (by kernel_rfl)]; exact b13
        clear ha hU hD
        rw [if_pos (by simp [Region.wanted, yielded, r76])]
        go_simp
        exact hK _ hC (Below.refl _ _)
      · -- 16
        intro vs a W K ha hC hD hU hK
        have r76 : a.tmps[76]? = some (vs 14) := by rw [ha]; exact fillA_get0 (j := 14) (by kernel_rfl) (by rw [hsz]; decide)
        have q14 : vs 14 = .bool true := hD 14 (by simp [waits, Region.binds])
        rw [q14] at r76
        have r77 : a.tmps[77]? = some (vs 15) := by rw [ha]; exact fillA_get0 (j := 15) (by kernel_rfl) (by rw [hsz]; decide)
        have q15 : vs 15 = .int .i64 0 := hD 15 (by simp [waits, Region.binds])
        rw [q15] at r77
        clear ha hU hD
        rw [if_pos (by simp [Region.wanted, yielded, r76])]
        go_simp
        exact hK _ hC (Below.refl _ _)
      · -- 17
        intro vs a W K ha hC hD hU hK
        have r76 : a.tmps[76]? = some (vs 14) := by rw [ha]; exact fillA_get0 (j := 14) (by kernel_rfl) (by rw [hsz]; decide)
        have q14 : vs 14 = .bool true := hD 14 (by simp [waits, Region.binds])
        rw [q14] at r76
        have r78 : a.tmps[78]? = some (vs 16) := by rw [ha]; exact fillA_get0 (j := 16) (by kernel_rfl) (by rw [hsz]; decide)
        have q16 : vs 16 = .bool true := hD 16 (by simp [waits, Region.binds])
        rw [q16] at r78
        clear ha hU hD
        rw [if_pos (by rfl)]
        go_simp
        exact hK _ hC (Below.refl _ _)
      · -- 18
        intro vs a W K ha hC hD hU hK
        have r79 : a.tmps[79]? = some (vs 17) := by rw [ha]; exact fillA_get0 (j := 17) (by kernel_rfl) (by rw [hsz]; decide)
        have q17 : vs 17 = .bool true := hD 17 (by simp [waits, Region.binds])
        rw [q17] at r79
        clear ha hU hD
        rw [if_pos (by rfl)]
        go_simp
        exact hK _ hC (Below.refl _ _)
      · -- 19
        intro vs a W K ha hC hD hU hK
        have r80 : a.tmps[80]? = some (vs 18) := by rw [ha]; exact fillA_get0 (j := 18) (by kernel_rfl) (by rw [hsz]; decide)
        have q18 : vs 18 = .bool true := hD 18 (by simp [waits, Region.binds])
        rw [q18] at r80
        have r15 : a.tmps[15]? = some (.int .i64 0) := by rw [ha, fillA_base0 (by kernel_rfl)]; exact b15
        clear ha hU hD
        rw [if_pos (by simp [Region.wanted, yielded, r80])]
        go_simp
        exact hK _ hC (Below.refl _ _)
      · -- 20
        intro vs a W K ha hC hD hU hK
        have r80 : a.tmps[80]? = some (vs 18) := by rw [ha]; exact fillA_get0 (j := 18) (by kernel_rfl) (by rw [hsz]; decide)
        have q18 : vs 18 = .bool true := hD 18 (by simp [waits, Region.binds])
        rw [q18] at r80
        have r81 : a.tmps[81]? = some (vs 19) := by rw [ha]; exact fillA_get0 (j := 19) (by kernel_rfl) (by rw [hsz]; decide)
        have q19 : vs 19 = .int .i64 0 := hD 19 (by simp [waits, Region.binds])
        rw [q19] at r81
        clear ha hU hD
        rw [if_pos (by simp [Region.wanted, yielded, r80])]
        go_simp
        exact hK _ hC (Below.refl _ _)
      · -- 21
        intro vs a W K ha hC hD hU hK
        have r80 : a.tmps[80]? = some (vs 18) := by rw [ha]; exact fillA_get0 (j := 18) (by kernel_rfl) (by rw [hsz]; decide)
        have q18 : vs 18 = .bool true := hD 18 (by simp [waits, Region.binds])
        rw [q18] at r80
        have r82 : a.tmps[82]? = some (vs 20) := by rw [ha]; exact fillA_get0 (j := 20) (by kernel_rfl) (by rw [hsz]; decide)
        have q20 : vs 20 = .bool true := hD 20 (by simp [waits, Region.binds])
        rw [q20] at r82
        clear ha hU hD
        rw [if_pos (by rfl)]
        go_simp
        exact hK _ hC (Below.refl _ _)
      · -- 22
        intro vs a W K ha hC hD hU hK
        have r83 : a.tmps[83]? = some (vs 21) := by rw [ha]; exact fillA_get0 (j := 21) (by kernel_rfl) (by rw [hsz]; decide)
        have q21 : vs 21 = .bool true := hD 21 (by simp [waits, Region.binds])
        rw [q21] at r83
        clear ha hU hD
        rw [if_pos (by rfl)]
        go_simp
        exact hK _ hC (Below.refl _ _)
      · -- 23
        intro vs a W K ha hC hD hU hK
        have r84 : a.tmps[84]? = some (vs 22) := by rw [ha]; exact fillA_get0 (j := 22) (by kernel_rfl) (by rw [hsz]; decide)
        have q22 : vs 22 = .bool true := hD 22 (by simp [waits, Region.binds])
        rw [q22] at r84
        have r18 : a.tmps[18]? = some (.int .i64 8) := by rw [ha, fillA_base0 (by kernel_rfl)]; exact b18
        clear ha hU hD
        rw [if_pos (by simp [Region.wanted, yielded, r84])]
        go_simp
        exact hK _ hC (Below.refl _ _)
      · -- 24
        intro vs a W K ha hC hD hU hK
        have r84 : a.tmps[84]? = some (vs 22) := by rw [ha]; exact fillA_get0 (j := 22) (by kernel_rfl) (by rw [hsz]; decide)
        have q22 : vs 22 = .bool true := hD 22 (by simp [waits, Region.binds])
        rw [q22] at r84
        have r85 : a.tmps[85]? = some (vs 23) := by rw [ha]; exact fillA_get0 (j := 23) (by kernel_rfl) (by rw [hsz]; decide)
        have q23 : vs 23 = .int .i64 8 := hD 23 (by simp [waits, Region.binds])
        rw [q23] at r85
        clear ha hU hD
        rw [if_pos (by simp [Region.wanted, yielded, r84])]
        go_simp
        exact hK _ hC (Below.refl _ _)
      · -- 25
        intro vs a W K ha hC hD hU hK
        have r84 : a.tmps[84]? = some (vs 22) := by rw [ha]; exact fillA_get0 (j := 22) (by kernel_rfl) (by rw [hsz]; decide)
        have q22 : vs 22 = .bool true := hD 22 (by simp [waits, Region.binds])
        rw [q22] at r84
        have r86 : a.tmps[86]? = some (vs 24) := by rw [ha]; exact fillA_get0 (j := 24) (by kernel_rfl) (by rw [hsz]; decide)
        have q24 : vs 24 = .bool true := hD 24 (by simp [waits, Region.binds])
        rw [q24] at r86
        clear ha hU hD
        rw [if_pos (by rfl)]
        go_simp
        exact hK _ hC (Below.refl _ _)
      · -- 26
        intro vs a W K ha hC hD hU hK
        have r87 : a.tmps[87]? = some (vs 25) := by rw [ha]; exact fillA_get0 (j := 25) (by kernel_rfl) (by rw [hsz]; decide)
        have q25 : vs 25 = .bool true := hD 25 (by simp [waits, Region.binds])
        rw [q25] at r87
        clear ha hU hD
        rw [if_pos (by rfl)]
        go_simp
        exact hK _ hC (Below.refl _ _)
      · -- 27
        intro vs a W K ha hC hD hU hK
        have r88 : a.tmps[88]? = some (vs 26) := by rw [ha]; exact fillA_get0 (j := 26) (by kernel_rfl) (by rw [hsz]; decide)
        have q26 : vs 26 = .bool true := hD 26 (by simp [waits, Region.binds])
        rw [q26] at r88
        have r2 : a.tmps[2]? = some (.pointer (some ⟨g2, 0, none⟩)) := by rw [ha, fillA_base0 (by kernel_rfl)]; exact b2
        clear ha hU hD
        rw [if_pos (by simp [Region.wanted, yielded, r88])]
        obtain ⟨k0, k1, k2, k3, k4, k5⟩ := kk.out W hC
        go_simp
        exact hK _ hC (Below.refl _ _)
      · -- 28
        intro vs a W K ha hC hD hU hK
        have r88 : a.tmps[88]? = some (vs 26) := by rw [ha]; exact fillA_get0 (j := 26) (by kernel_rfl) (by rw [hsz]; decide)
        have q26 : vs 26 = .bool true := hD 26 (by simp [waits, Region.binds])
        rw [q26] at r88
        clear ha hU hD
        rw [if_pos (by simp [Region.wanted, yielded, r88])]
        go_simp
        refine (span8_any 1012 1014 W).mono ?_
        rintro e w' ⟨rfl, hb⟩
        exact hK _ (bl_call hC hb (Nat.le_refl _)) hb
      · -- 29
        intro vs a W K ha hC hD hU hK
        have r88 : a.tmps[88]? = some (vs 26) := by rw [ha]; exact fillA_get0 (j := 26) (by kernel_rfl) (by rw [hsz]; decide)
        have q26 : vs 26 = .bool true := hD 26 (by simp [waits, Region.binds])
        rw [q26] at r88
        have r89 : a.tmps[89]? = some (vs 27) := by rw [ha]; exact fillA_get0 (j := 27) (by kernel_rfl) (by rw [hsz]; decide)
        have q27 : vs 27 = .agg #[.int .i64 1012, .int .i64 1014] := hD 27 (by simp [waits, Region.binds])
        rw [q27] at r89
        have r90 : a.tmps[90]? = some (vs 28) := by rw [ha]; exact fillA_get0 (j := 28) (by kernel_rfl) (by rw [hsz]; decide)
        have q28 : vs 28 = .agg #[.int .i64 1012, .int .i64 1014] := hD 28 (by simp [waits, Region.binds])
        rw [q28] at r90
        clear ha hU hD
        rw [if_pos (by simp [Region.wanted, yielded, r88])]
        go_simp
        exact hK _ hC (Below.refl _ _)
      · -- 30
        intro vs a W K ha hC hD hU hK
        have r88 : a.tmps[88]? = some (vs 26) := by rw [ha]; exact fillA_get0 (j := 26) (by kernel_rfl) (by rw [hsz]; decide)
        have q26 : vs 26 = .bool true := hD 26 (by simp [waits, Region.binds])
        rw [q26] at r88
        have r91 : a.tmps[91]? = some (vs 29) := by rw [ha]; exact fillA_get0 (j := 29) (by kernel_rfl) (by rw [hsz]; decide)
        have q29 : vs 29 = .bool true := hD 29 (by simp [waits, Region.binds])
        rw [q29] at r91
        clear ha hU hD
        rw [if_pos (by rfl)]
        go_simp
        exact hK _ hC (Below.refl _ _)
      · -- 31
        intro vs a W K ha hC hD hU hK
        have r92 : a.tmps[92]? = some (vs 30) := by rw [ha]; exact fillA_get0 (j := 30) (by kernel_rfl) (by rw [hsz]; decide)
        have q30 : vs 30 = .bool true := hD 30 (by simp [waits, Region.binds])
        rw [q30] at r92
        clear ha hU hD
        rw [if_pos (by rfl)]
        go_simp
        exact hK _ hC (Below.refl _ _)
      · -- 32
        intro vs a W K ha hC hD hU hK
        have r93 : a.tmps[93]? = some (vs 31) := by rw [ha]; exact fillA_get0 (j := 31) (by kernel_rfl) (by rw [hsz]; decide)
        have q31 : vs 31 = .bool true := hD 31 (by simp [waits, Region.binds])
        rw [q31] at r93
        have r4 : a.tmps[4]? = some (.pointer (some ⟨g4, 0, none⟩)) := by rw [ha, fillA_base0 (by kernel_rfl)]; exact b4
        clear ha hU hD
        rw [if_pos (by simp [Region.wanted, yielded, r93])]
        obtain ⟨k0, k1, k2, k3, k4, k5⟩ := kk.out W hC
        go_simp
        exact hK _ hC (Below.refl _ _)
      · -- 33
        intro vs a W K ha hC hD hU hK
        have r93 : a.tmps[93]? = some (vs 31) := by rw [ha]; exact fillA_get0 (j := 31) (by kernel_rfl) (by rw [hsz]; decide)
        have q31 : vs 31 = .bool true := hD 31 (by simp [waits, Region.binds])
        rw [q31] at r93
        clear ha hU hD
        rw [if_pos (by simp [Region.wanted, yielded, r93])]
        go_simp
        refine (span8_any 3 7 W).mono ?_
        rintro e w' ⟨rfl, hb⟩
        exact hK _ (bl_call hC hb (Nat.le_refl _)) hb
      · -- 34
        intro vs a W K ha hC hD hU hK
        have r93 : a.tmps[93]? = some (vs 31) := by rw [ha]; exact fillA_get0 (j := 31) (by kernel_rfl) (by rw [hsz]; decide)
        have q31 : vs 31 = .bool true := hD 31 (by simp [waits, Region.binds])
        rw [q31] at r93
        have r94 : a.tmps[94]? = some (vs 32) := by rw [ha]; exact fillA_get0 (j := 32) (by kernel_rfl) (by rw [hsz]; decide)
        have q32 : vs 32 = .agg #[.int .i64 3, .int .i64 7] := hD 32 (by simp [waits, Region.binds])
        rw [q32] at r94
        have r95 : a.tmps[95]? = some (vs 33) := by rw [ha]; exact fillA_get0 (j := 33) (by kernel_rfl) (by rw [hsz]; decide)
        have q33 : vs 33 = .agg #[.int .i64 3, .int .i64 7] := hD 33 (by simp [waits, Region.binds])
        rw [q33] at r95
        clear ha hU hD
        rw [if_pos (by simp [Region.wanted, yielded, r93])]
        go_simp
        exact hK _ hC (Below.refl _ _)
      · -- 35
        intro vs a W K ha hC hD hU hK
        have r93 : a.tmps[93]? = some (vs 31) := by rw [ha]; exact fillA_get0 (j := 31) (by kernel_rfl) (by rw [hsz]; decide)
        have q31 : vs 31 = .bool true := hD 31 (by simp [waits, Region.binds])
        rw [q31] at r93
        have r96 : a.tmps[96]? = some (vs 34) := by rw [ha]; exact fillA_get0 (j := 34) (by kernel_rfl) (by rw [hsz]; decide)
        have q34 : vs 34 = .bool true := hD 34 (by simp [waits, Region.binds])
        rw [q34] at r96
        clear ha hU hD
        rw [if_pos (by rfl)]
        go_simp
        exact hK _ hC (Below.refl _ _)
      · -- 36
        intro vs a W K ha hC hD hU hK
        have r97 : a.tmps[97]? = some (vs 35) := by rw [ha]; exact fillA_get0 (j := 35) (by kernel_rfl) (by rw [hsz]; decide)
        have q35 : vs 35 = .bool true := hD 35 (by simp [waits, Region.binds])
        rw [q35] at r97
        clear ha hU hD
        rw [if_pos (by rfl)]
        go_simp
        exact hK _ hC (Below.refl _ _)
      · -- 37
        intro vs a W K ha hC hD hU hK
        have r98 : a.tmps[98]? = some (vs 36) := by rw [ha]; exact fillA_get0 (j := 36) (by kernel_rfl) (by rw [hsz]; decide)
        have q36 : vs 36 = .bool true := hD 36 (by simp [waits, Region.binds])
        rw [q36] at r98
        have r6 : a.tmps[6]? = some (.int .i64 1) := by rw [ha, fillA_base0 (by kernel_rfl)]; exact b6
        clear ha hU hD
        rw [if_pos (by simp [Region.wanted, yielded, r98])]
        go_simp
        exact hK _ hC (Below.refl _ _)
      · -- 38
        intro vs a W K ha hC hD hU hK
        have r98 : a.tmps[98]? = some (vs 36) := by rw [ha]; exact fillA_get0 (j := 36) (by kernel_rfl) (by rw [hsz]; decide)
        have q36 : vs 36 = .bool true := hD 36 (by simp [waits, Region.binds])
        rw [q36] at r98
        have r99 : a.tmps[99]? = some (vs 37) := by rw [ha]; exact fillA_get0 (j := 37) (by kernel_rfl) (by rw [hsz]; decide)
        have q37 : vs 37 = .int .i64 1 := hD 37 (by simp [waits, Region.binds])
        rw [q37] at r99
        clear ha hU hD
        rw [if_pos (by simp [Region.wanted, yielded, r98])]
        go_simp
        exact hK _ hC (Below.refl _ _)
      · -- 39
        intro vs a W K ha hC hD hU hK
        have r98 : a.tmps[98]? = some (vs 36) := by rw [ha]; exact fillA_get0 (j := 36) (by kernel_rfl) (by rw [hsz]; decide)
        have q36 : vs 36 = .bool true := hD 36 (by simp [waits, Region.binds])
        rw [q36] at r98
        have r100 : a.tmps[100]? = some (vs 38) := by rw [ha]; exact fillA_get0 (j := 38) (by kernel_rfl) (by rw [hsz]; decide)
        have q38 : vs 38 = .bool true := hD 38 (by simp [waits, Region.binds])
        rw [q38] at r100
        clear ha hU hD
        rw [if_pos (by rfl)]
        go_simp
        exact hK _ hC (Below.refl _ _)
      · -- 40
        intro vs a W K ha hC hD hU hK
        have r101 : a.tmps[101]? = some (vs 39) := by rw [ha]; exact fillA_get0 (j := 39) (by kernel_rfl) (by rw [hsz]; decide)
        have q39 : vs 39 = .bool true := hD 39 (by simp [waits, Region.binds])
        rw [q39] at r101
        clear ha hU hD
        rw [if_pos (by rfl)]
        go_simp
        exact hK _ hC (Below.refl _ _)
      · -- 41
        intro vs a W K ha hC hD hU hK
        have r102 : a.tmps[102]? = some (vs 40) := by rw [ha]; exact fillA_get0 (j := 40) (by kernel_rfl) (by rw [hsz]; decide)
        have q40 : vs 40 = .bool true := hD 40 (by simp [waits, Region.binds])
        rw [q40] at r102
        have r7 : a.tmps[7]? = some (.int .i64 11) := by rw [ha, fillA_base0 (by kernel_rfl)]; exact b7
        clear ha hU hD
        rw [if_pos (by simp [Region.wanted, yielded, r102])]
        go_simp
        exact hK _ hC (Below.refl _ _)
      · -- 42
        intro vs a W K ha hC hD hU hK
        have r102 : a.tmps[102]? = some (vs 40) := by rw [ha]; exact fillA_get0 (j := 40) (by kernel_rfl) (by rw [hsz]; decide)
        have q40 : vs 40 = .bool true := hD 40 (by simp [waits, Region.binds])
        rw [q40] at r102
        have r103 : a.tmps[103]? = some (vs 41) := by rw [ha]; exact fillA_get0 (j := 41) (by kernel_rfl) (by rw [hsz]; decide)
        have q41 : vs 41 = .int .i64 11 := hD 41 (by simp [waits, Region.binds])
        rw [q41] at r103
        clear ha hU hD
        rw [if_pos (by simp [Region.wanted, yielded, r102])]
        go_simp
        exact hK _ hC (Below.refl _ _)
      · -- 43
        intro vs a W K ha hC hD hU hK
        have r102 : a.tmps[102]? = some (vs 40) := by rw [ha]; exact fillA_get0 (j := 40) (by kernel_rfl) (by rw [hsz]; decide)
        have q40 : vs 40 = .bool true := hD 40 (by simp [waits, Region.binds])
        rw [q40] at r102
        have r104 : a.tmps[104]? = some (vs 42) := by rw [ha]; exact fillA_get0 (j := 42) (by kernel_rfl) (by rw [hsz]; decide)
        have q42 : vs 42 = .bool true := hD 42 (by simp [waits, Region.binds])
        rw [q42] at r104
        clear ha hU hD
        rw [if_pos (by rfl)]
        go_simp
        exact hK _ hC (Below.refl _ _)
      · -- 44
        intro vs a W K ha hC hD hU hK
        have r105 : a.tmps[105]? = some (vs 43) := by rw [ha]; exact fillA_get0 (j := 43) (by kernel_rfl) (by rw [hsz]; decide)
        have q43 : vs 43 = .bool true := hD 43 (by simp [waits, Region.binds])
        rw [q43] at r105
        clear ha hU hD
        rw [if_pos (by rfl)]
        go_simp
        exact hK _ hC (Below.refl _ _)
      · -- 45
        intro vs a W K ha hC hD hU hK
        have r106 : a.tmps[106]? = some (vs 44) := by rw [ha]; exact fillA_get0 (j := 44) (by kernel_rfl) (by rw [hsz]; decide)
        have q44 : vs 44 = .bool true := hD 44 (by simp [waits, Region.binds])
        rw [q44] at r106
        have r9 : a.tmps[9]? = some (.pointer (some ⟨g9, 0, none⟩)) := by rw [ha, fillA_base0 (by kernel_rfl)]; exact b9
        clear ha hU hD
        rw [if_pos (by simp [Region.wanted, yielded, r106])]
        obtain ⟨k0, k1, k2, k3, k4, k5⟩ := kk.out W hC
        go_simp
        exact hK _ hC (Below.refl _ _)
      · -- 46
        intro vs a W K ha hC hD hU hK
        have r106 : a.tmps[106]? = some (vs 44) := by rw [ha]; exact fillA_get0 (j := 44) (by kernel_rfl) (by rw [hsz]; decide)
        have q44 : vs 44 = .bool true := hD 44 (by simp [waits, Region.binds])
        rw [q44] at r106
        clear ha hU hD
        rw [if_pos (by simp [Region.wanted, yielded, r106])]
        go_simp
        refine (span8_any 8 12 W).mono ?_
        rintro e w' ⟨rfl, hb⟩
        exact hK _ (bl_call hC hb (Nat.le_refl _)) hb
      · -- 47
        intro vs a W K ha hC hD hU hK
        have r106 : a.tmps[106]? = some (vs 44) := by rw [ha]; exact fillA_get0 (j := 44) (by kernel_rfl) (by rw [hsz]; decide)
        have q44 : vs 44 = .bool true := hD 44 (by simp [waits, Region.binds])
        rw [q44] at r106
        have r107 : a.tmps[107]? = some (vs 45) := by rw [ha]; exact fillA_get0 (j := 45) (by kernel_rfl) (by rw [hsz]; decide)
        have q45 : vs 45 = .agg #[.int .i64 8, .int .i64 12] := hD 45 (by simp [waits, Region.binds])
        rw [q45] at r107
        have r108 : a.tmps[108]? = some (vs 46) := by rw [ha]; exact fillA_get0 (j := 46) (by kernel_rfl) (by rw [hsz]; decide)
        have q46 : vs 46 = .agg #[.int .i64 8, .int .i64 12] := hD 46 (by simp [waits, Region.binds])
        rw [q46] at r108
        clear ha hU hD
        rw [if_pos (by simp [Region.wanted, yielded, r106])]
        go_simp
        exact hK _ hC (Below.refl _ _)
      · -- 48
        intro vs a W K ha hC hD hU hK
        have r106 : a.tmps[106]? = some (vs 44) := by rw [ha]; exact fillA_get0 (j := 44) (by kernel_rfl) (by rw [hsz]; decide)
        have q44 : vs 44 = .bool true := hD 44 (by simp [waits, Region.binds])
        rw [q44] at r106
        have r109 : a.tmps[109]? = some (vs 47) := by rw [ha]; exact fillA_get0 (j := 47) (by kernel_rfl) (by rw [hsz]; decide)
        have q47 : vs 47 = .bool true := hD 47 (by simp [waits, Region.binds])
        rw [q47] at r109
        clear ha hU hD
        rw [if_pos (by rfl)]
        go_simp
        exact hK _ hC (Below.refl _ _)
      · -- 49
        intro vs a W K ha hC hD hU hK
        have r110 : a.tmps[110]? = some (vs 48) := by rw [ha]; exact fillA_get0 (j := 48) (by kernel_rfl) (by rw [hsz]; decide)
        have q48 : vs 48 = .bool true := hD 48 (by simp [waits, Region.binds])
        rw [q48] at r110
        clear ha hU hD
        rw [if_pos (by rfl)]
        go_simp
        exact hK _ hC (Below.refl _ _)
      · -- 50
        intro vs a W K ha hC hD hU hK
        have r111 : a.tmps[111]? = some (vs 49) := by rw [ha]; exact fillA_get0 (j := 49) (by kernel_rfl) (by rw [hsz]; decide)
        have q49 : vs 49 = .bool true := hD 49 (by simp [waits, Region.binds])
        rw [q49] at r111
        have r11 : a.tmps[11]? = some (.slice Al nl cl) := by rw [ha, fillA_base0 (by kernel_rfl)]; exact b11
        clear ha hU hD
        rw [if_pos (by simp [Region.wanted, yielded, r111])]
        go_simp
        exact hK _ hC (Below.refl _ _)
      · -- 51
        intro vs a W K ha hC hD hU hK
        have r111 : a.tmps[111]? = some (vs 49) := by rw [ha]; exact fillA_get0 (j := 49) (by kernel_rfl) (by rw [hsz]; decide)
        have q49 : vs 49 = .bool true := hD 49 (by simp [waits, Region.binds])
        rw [q49] at r111
        clear ha hU hD
        rw [if_pos (by simp [Region.wanted, yielded, r111])]
        go_simp
        exact hK _ _ (bl_alloc hC _ (Nat.le_refl _)) (bl_alloc (Below.refl _ _) _ (Nat.le_refl _)) (IsIntsV.new [0, 2] _ (by decide) hC.size)
      · -- 52
        intro vs a W K ha hC hD hU hK
        have r111 : a.tmps[111]? = some (vs 49) := by rw [ha]; exact fillA_get0 (j := 49) (by kernel_rfl) (by rw [hsz]; decide)
        have q49 : vs 49 = .bool true := hD 49 (by simp [waits, Region.binds])
        rw [q49] at r111
        clear ha hU hD
        rw [if_pos (by simp [Region.wanted, yielded, r111])]
        go_simp
        exact hK _ _ (bl_alloc hC _ (Nat.le_refl _)) (bl_alloc (Below.refl _ _) _ (Nat.le_refl _)) (IsIntsV.new [3] _ (by decide) hC.size)
      · -- 53
        intro vs a W K ha hC hD hU hK
        have r111 : a.tmps[111]? = some (vs 49) := by rw [ha]; exact fillA_get0 (j := 49) (by kernel_rfl) (by rw [hsz]; decide)
        have q49 : vs 49 = .bool true := hD 49 (by simp [waits, Region.binds])
        rw [q49] at r111
        have r113 : a.tmps[113]? = some (vs 51) := by rw [ha]; exact fillA_get0 (j := 51) (by kernel_rfl) (by rw [hsz]; decide)
        have q51 : IsIntsV V8.heap.size [0, 2] (vs 51) W := hD 51 (by simp [waits, Region.binds])
        obtain ⟨A113, c113, q51, hI113⟩ := q51
        rw [q51] at r113
        have r114 : a.tmps[114]? = some (vs 52) := by rw [ha]; exact fillA_get0 (j := 52) (by kernel_rfl) (by rw [hsz]; decide)
        have q52 : IsIntsV V8.heap.size [3] (vs 52) W := hD 52 (by simp [waits, Region.binds])
        obtain ⟨A114, c114, q52, hI114⟩ := q52
        rw [q52] at r114
        clear ha hU hD
        rw [if_pos (by simp [Region.wanted, yielded, r111])]
        go_simp
        exact hK _ _ (bl_alloc hC _ (Nat.le_refl _)) (bl_alloc (Below.refl _ _) _ (Nat.le_refl _)) (IsRowsV.new hI113 hI114 hC.size)
      · -- 54
        intro vs a W K ha hC hD hU hK
        have r111 : a.tmps[111]? = some (vs 49) := by rw [ha]; exact fillA_get0 (j := 49) (by kernel_rfl) (by rw [hsz]; decide)
        have q49 : vs 49 = .bool true := hD 49 (by simp [waits, Region.binds])
        rw [q49] at r111
        have r112 : a.tmps[112]? = some (vs 50) := by rw [ha]; exact fillA_get0 (j := 50) (by kernel_rfl) (by rw [hsz]; decide)
        have q50 : vs 50 = .slice Al nl cl := hD 50 (by simp [waits, Region.binds])
        rw [q50] at r112
        have r115 : a.tmps[115]? = some (vs 53) := by rw [ha]; exact fillA_get0 (j := 53) (by kernel_rfl) (by rw [hsz]; decide)
        have q53 : IsRowsV V8.heap.size [[0, 2], [3]] (vs 53) W := hD 53 (by simp [waits, Region.binds])
        obtain ⟨A115, c115, q53, hI115⟩ := q53
        rw [q53] at r115
        clear ha hU hD
        rw [if_pos (by simp [Region.wanted, yielded, r111])]
        go_simp
        refine (rows_any W (HL.out.keep (SlR.good IntR.good) (Keeps.below hC)) hI115).mono ?_
        rintro e w' ⟨rfl, q, rfl⟩
        rw [decide_eq_true rfl]
        exact hK _ (bl_drewN hC q) (bl_drewN (Below.refl _ _) q)
      · -- 55
        intro vs a W K ha hC hD hU hK
        have r111 : a.tmps[111]? = some (vs 49) := by rw [ha]; exact fillA_get0 (j := 49) (by kernel_rfl) (by rw [hsz]; decide)
        have q49 : vs 49 = .bool true := hD 49 (by simp [waits, Region.binds])
        rw [q49] at r111
        have r116 : a.tmps[116]? = some (vs 54) := by rw [ha]; exact fillA_get0 (j := 54) (by kernel_rfl) (by rw [hsz]; decide)
        have q54 : vs 54 = .bool true := hD 54 (by simp [waits, Region.binds])
        rw [q54] at r116
        clear ha hU hD
        rw [if_pos (by rfl)]
        go_simp
        exact hK _ hC (Below.refl _ _)
      · -- 56
        intro vs a W K ha hC hD hU hK
        have r117 : a.tmps[117]? = some (vs 55) := by rw [ha]; exact fillA_get0 (j := 55) (by kernel_rfl) (by rw [hsz]; decide)
        have q55 : vs 55 = .bool true := hD 55 (by simp [waits, Region.binds])
        rw [q55] at r117
        clear ha hU hD
        rw [if_pos (by rfl)]
        go_simp
        exact hK _ hC (Below.refl _ _)
      · -- 57
        intro vs a W K ha hC hD hU hK
        have r118 : a.tmps[118]? = some (vs 56) := by rw [ha]; exact fillA_get0 (j := 56) (by kernel_rfl) (by rw [hsz]; decide)
        have q56 : vs 56 = .bool true := hD 56 (by simp [waits, Region.binds])
        rw [q56] at r118
        have r12 : a.tmps[12]? = some (.int .i64 7) := by rw [ha, fillA_base0 (by kernel_rfl)]; exact b12
        clear ha hU hD
        rw [if_pos (by simp [Region.wanted, yielded, r118])]
        go_simp
        exact hK _ hC (Below.refl _ _)
      · -- 58
        intro vs a W K ha hC hD hU hK
        have r118 : a.tmps[118]? = some (vs 56) := by rw [ha]; exact fillA_get0 (j := 56) (by kernel_rfl) (by rw [hsz]; decide)
        have q56 : vs 56 = .bool true := hD 56 (by simp [waits, Region.binds])
        rw [q56] at r118
        have r119 : a.tmps[119]? = some (vs 57) := by rw [ha]; exact fillA_get0 (j := 57) (by kernel_rfl) (by rw [hsz]; decide)
        have q57 : vs 57 = .int .i64 7 := hD 57 (by simp [waits, Region.binds])
        rw [q57] at r119
        clear ha hU hD
        rw [if_pos (by simp [Region.wanted, yielded, r118])]
        go_simp
        exact hK _ hC (Below.refl _ _)
      · -- 59
        intro vs a W K ha hC hD hU hK
        have r118 : a.tmps[118]? = some (vs 56) := by rw [ha]; exact fillA_get0 (j := 56) (by kernel_rfl) (by rw [hsz]; decide)
        have q56 : vs 56 = .bool true := hD 56 (by simp [waits, Region.binds])
        rw [q56] at r118
        have r120 : a.tmps[120]? = some (vs 58) := by rw [ha]; exact fillA_get0 (j := 58) (by kernel_rfl) (by rw [hsz]; decide)
        have q58 : vs 58 = .bool true := hD 58 (by simp [waits, Region.binds])
        rw [q58] at r120
        clear ha hU hD
        rw [if_pos (by rfl)]
        go_simp
        exact hK _ hC (Below.refl _ _)
      · -- 60
        intro vs a W K ha hC hD hU hK
        have r121 : a.tmps[121]? = some (vs 59) := by rw [ha]; exact fillA_get0 (j := 59) (by kernel_rfl) (by rw [hsz]; decide)
        have q59 : vs 59 = .bool true := hD 59 (by simp [waits, Region.binds])
        rw [q59] at r121
        clear ha hU hD
        rw [if_pos (by rfl)]
        go_simp
        exact hK _ hC (Below.refl _ _)
      · -- 61
        intro vs a W K ha hC hD hU hK
        have r122 : a.tmps[122]? = some (vs 60) := by rw [ha]; exact fillA_get0 (j := 60) (by kernel_rfl) (by rw [hsz]; decide)
        have q60 : vs 60 = .bool true := hD 60 (by simp [waits, Region.binds])
        rw [q60] at r122
        have r14 : a.tmps[14]? = some (.slice Am nm cm) := by rw [ha, fillA_base0 (by kernel_rfl)]; exact b14
        clear ha hU hD
        rw [if_pos (by simp [Region.wanted, yielded, r122])]
        go_simp
        exact hK _ hC (Below.refl _ _)
      · -- 62
        intro vs a W K ha hC hD hU hK
        have r122 : a.tmps[122]? = some (vs 60) := by rw [ha]; exact fillA_get0 (j := 60) (by kernel_rfl) (by rw [hsz]; decide)
        have q60 : vs 60 = .bool true := hD 60 (by simp [waits, Region.binds])
        rw [q60] at r122
        clear ha hU hD
        rw [if_pos (by simp [Region.wanted, yielded, r122])]
        go_simp
        exact hK _ _ (bl_alloc hC _ (Nat.le_refl _)) (bl_alloc (Below.refl _ _) _ (Nat.le_refl _)) (IsIntsV.new [0, 2, 3] _ (by decide) hC.size)
      · -- 63
        intro vs a W K ha hC hD hU hK
        have r122 : a.tmps[122]? = some (vs 60) := by rw [ha]; exact fillA_get0 (j := 60) (by kernel_rfl) (by rw [hsz]; decide)
        have q60 : vs 60 = .bool true := hD 60 (by simp [waits, Region.binds])
        rw [q60] at r122
        have r123 : a.tmps[123]? = some (vs 61) := by rw [ha]; exact fillA_get0 (j := 61) (by kernel_rfl) (by rw [hsz]; decide)
        have q61 : vs 61 = .slice Am nm cm := hD 61 (by simp [waits, Region.binds])
        rw [q61] at r123
        have r124 : a.tmps[124]? = some (vs 62) := by rw [ha]; exact fillA_get0 (j := 62) (by kernel_rfl) (by rw [hsz]; decide)
        have q62 : IsIntsV V8.heap.size [0, 2, 3] (vs 62) W := hD 62 (by simp [waits, Region.binds])
        obtain ⟨A124, c124, q62, hI124⟩ := q62
        rw [q62] at r124
        clear ha hU hD
        rw [if_pos (by simp [Region.wanted, yielded, r122])]
        go_simp
        refine (ints_any W (HM.out.keep IntR.good (Keeps.below hC)) hI124).mono ?_
        rintro e w' ⟨rfl, q, rfl⟩
        rw [decide_eq_true rfl]
        exact hK _ (bl_drewN hC q) (bl_drewN (Below.refl _ _) q)
      · -- 64
        intro vs a W K ha hC hD hU hK
        have r122 : a.tmps[122]? = some (vs 60) := by rw [ha]; exact fillA_get0 (j := 60) (by kernel_rfl) (by rw [hsz]; decide)
        have q60 : vs 60 = .bool true := hD 60 (by simp [waits, Region.binds])
        rw [q60] at r122
        have r125 : a.tmps[125]? = some (vs 63) := by rw [ha]; exact fillA_get0 (j := 63) (by kernel_rfl) (by rw [hsz]; decide)
        have q63 : vs 63 = .bool true := hD 63 (by simp [waits, Region.binds])
        rw [q63] at r125
        clear ha hU hD
        rw [if_pos (by rfl)]
        go_simp
        exact hK _ hC (Below.refl _ _)
      · -- 65
        intro vs a W K ha hC hD hU hK
        have r126 : a.tmps[126]? = some (vs 64) := by rw [ha]; exact fillA_get0 (j := 64) (by kernel_rfl) (by rw [hsz]; decide)
        have q64 : vs 64 = .bool true := hD 64 (by simp [waits, Region.binds])
        rw [q64] at r126
        clear ha hU hD
        rw [if_pos (by rfl)]
        go_simp
        exact hK _ hC (Below.refl _ _)
    case finA =>
      refine Fin1.none (Nat.le_refl _) ?_
      intro vs W a1 hC hE ha
      have e0 : vs 65 = .bool true := hE 65 (by simp)
      have r0 : a1.tmps[0]? = some (vs 65) := by rw [ha]; exact fillA_get0 (j := 65) (by kernel_rfl) (by rw [hsz]; decide)
      have hdf1 : a1.defers = [] := by rw [ha, fillA_defers]; exact hdf
      rw [e0] at r0
      have hBF := bl_call HB8.out hC (Nat.le_refl _)
      clear ha hE hC e0
      go_simp
      go_wp2
      refine bodyPost_ret (results_tmp rfl _ _ _) hdf1 ?_
      exact ⟨by simp [r0], hBF⟩

end Go.Proofs.Ytnaadjhiahjlfaa
