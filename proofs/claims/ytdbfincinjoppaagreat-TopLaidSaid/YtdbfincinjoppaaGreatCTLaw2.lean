/- A part of the proof that TopLaid always answers true. -/
import Derived.Test.YtdbfincinjoppaaGreatCTLaw1
import Derived.Test.YtdbfincinjoppaaGreatCTopQ
set_option linter.all false
namespace Go.Proofs.YtdbfincinjoppaaGreat
open Go.RowKit
theorem ints_blk {S : Foot} {W : World} {g : Nat} {t : TypeId} {xs : List Int} (hB : Blk W g t (xs.map (Value.int .i64)).toArray) (hS : S g) (hn : xs.length ≤ maxLen) : Ints S W (some ⟨g, 0, none⟩) xs.length xs :=
 slice_blk hB hS rfl hn (fun k x hk => ⟨[.int .i64 x], rfl, fun j u hu => by
  have hj : j < 1 := of_getq hu
  obtain rfl : j = 0 := by omega
  simp at hu; subst hu
  simp [hk]⟩)
def IsIntsW8 (B : Nat) (xs : List Int) (v : Value) (W : World) : Prop := ∃ (A : Nat) (c : Nat), v = .slice (some ⟨A, 0, none⟩) xs.length c ∧ Ints (fun k => B ≤ k) W (some ⟨A, 0, none⟩) xs.length xs
theorem IsIntsW8.bl {B : Nat} {xs : List Int} {v : Value} {W V : World} (h : IsIntsW8 B xs v W) (hb : Below W.heap.size W V) : IsIntsW8 B xs v V := by
 obtain ⟨A, c, h1, h2⟩ := h
 exact ⟨A, c, h1, h2.keep IntR.good (Keeps.below hb)⟩
theorem IsIntsW8.new {B : Nat} {W : World} (xs : List Int) (t : TypeId) (hn : xs.length ≤ maxLen) (hB : B ≤ W.heap.size) {c : Nat} : IsIntsW8 B xs (.slice (some ⟨W.heap.size, 0, none⟩) xs.length c) (W.alloc (.cells (xs.map (Value.int .i64)).toArray t)) :=
 ⟨_, _, rfl, ints_blk (Blk.new _ _ _ rfl) hB hn⟩
theorem IsSeen.bl {B : Nat} {v : Value} {W V : World} (h : IsSeen B v W) (hb : Below W.heap.size W V) : IsSeen B v V := by
 obtain ⟨A, c, h1, h2⟩ := h
 exact ⟨A, c, h1, h2.keep SeenR.good (Keeps.below hb)⟩
def IsRowsV (B : Nat) (xs : List (List Int)) (v : Value) (W : World) : Prop := ∃ (A : Nat) (c : Nat), v = .slice (some ⟨A, 0, none⟩) xs.length c ∧ Rows (fun k => B ≤ k) W (some ⟨A, 0, none⟩) xs.length xs
theorem IsRowsV.bl {B : Nat} {xs : List (List Int)} {v : Value} {W V : World} (h : IsRowsV B xs v W) (hb : Below W.heap.size W V) : IsRowsV B xs v V := by
 obtain ⟨A, c, h1, h2⟩ := h
 exact ⟨A, c, h1, h2.keep (SlR.good IntR.good) (Keeps.below hb)⟩
theorem IsRowsV.new {B n1 n2 : Nat} {W : World} {x y : List Int} {A1 A2 : Option Addr} {c1 c2 c : Nat} {t : TypeId} (h1 : Ints (fun k => B ≤ k) W A1 n1 x) (h2 : Ints (fun k => B ≤ k) W A2 n2 y) (hB : B ≤ W.heap.size) : IsRowsV B [x, y] (.slice (some ⟨W.heap.size, 0, none⟩) 2 c) (W.alloc (.cells #[.slice A1 n1 c1, .slice A2 n2 c2] t)) := by
 refine ⟨_, _, rfl, slice_blk (Blk.new _ _ _ rfl) hB rfl (show 2 ≤ maxLen by decide) ?_⟩
 intro k z hk
 have hk2 : k < 2 := of_getq hk
 have hc : k = 0 ∨ k = 1 := by omega
 rcases hc with rfl | rfl
 ·obtain rfl : x = z := Option.some.inj hk
  refine ⟨[.slice A1 n1 c1], ⟨A1, n1, c1, rfl, h1.keep IntR.good (Keeps.alloc _ _)⟩, fun j u hu => ?_⟩
  have hj : j < 1 := of_getq hu
  obtain rfl : j = 0 := by omega
  exact hu
 obtain rfl : y = z := Option.some.inj hk
 refine ⟨[.slice A2 n2 c2], ⟨A2, n2, c2, rfl, h2.keep IntR.good (Keeps.alloc _ _)⟩, fun j u hu => ?_⟩
 have hj : j < 1 := of_getq hu
 obtain rfl : j = 0 := by omega
 exact hu
theorem ex_w : width8 (exHall 12) [] 0 12 = ((1012, 1014), 0) := by decide +kernel
theorem ex_g : gapR (exHall 12) exSeen 0 [0, 2] = ((3, 7), 0) := by decide +kernel
theorem ex_y : whyR (exHall 12) [] 0 [2, 3] = (1, 11, 0) := by decide +kernel
theorem ex_a : airsR (exHall 12) [] 0 [0, 2] = ((8, 12), 0) := by decide +kernel
theorem ex_l : layR (exHall 12) [] = ([[0, 2], [3]], 7, 0) := by decide +kernel
theorem ex_m : must8 (exHall 9) [] = ([0, 2, 3], 0) := by decide +kernel
theorem ex_n : (layR (exHall 6) []).2.2 = 8 := by decide +kernel
def awE (B : Nat) (hv : Value) : Nat → Bool → Value → World → Prop
 | 0, _, v, _ => v = hv
 | 1, b, v, W => b = false → IsSeen B v W
 | 2, b, v, W => b = false → IsIntsW8 B [0, 2] v W
 | 3, _, v, _ => v = .tuple #[.agg #[.int .i64 3, .int .i64 7], .int .i64 0]
 | 4, _, v, _ => v = .tuple #[.agg #[.int .i64 3, .int .i64 7], .int .i64 0]
 | 5, _, v, _ => v = .agg #[.int .i64 3, .int .i64 7]
 | 6, _, v, _ => v = .int .i64 0
 | 7, b, v, W => ∃ g, B ≤ g ∧ v = .pointer (some ⟨g, 0, none⟩) ∧ Blk W g 23 (if b then #[.int .i64 3, .int .i64 7] else #[.int .i64 0, .int .i64 0])
 | _, _, _, _ => True
theorem awE_stab (B : Nat) (hv : Value) : ∀ i b v w w', Below w.heap.size w w' → awE B hv i b v w → awE B hv i b v w'
 | 0, _, _, _, _, _, h => h
 | 1, _, _, _, _, hb, h => fun e => (h e).bl hb
 | 2, _, _, _, _, hb, h => fun e => (h e).bl hb
 | 3, _, _, _, _, _, h => h
 | 4, _, _, _, _, _, h => h
 | 5, _, _, _, _, _, h => h
 | 6, _, _, _, _, _, h => h
 | 7, _, _, _, _, hb, ⟨g, h1, h2, h3⟩ => ⟨g, h1, h2, h3.bl hb⟩
 | _ + 8, _, _, _, _, _, _ => trivial
set_option maxRecDepth 100000 in
set_option maxHeartbeats 2000000 in
theorem awake_any (w : World) :
  Calls Tryz.prog 7 #[] w fun e w' => e = .returned (.bool true) ∧ Below w.heap.size w w' := by
 go_enter Tryz.func7, Tryz.ntmps7
 go_wp2_with fail
 refine (hall34_any 12 w).mono ?_
 rintro e W1 ⟨⟨v, rfl, A1, B1, ca1, cb1, rfl, hH1, hca1⟩, b1⟩
 obtain ⟨W2, hW2⟩ : ∃ W2, W1.alloc (.cells #[.int .i64 10, .int .i64 12, .int .i64 12, .slice (some ⟨A1, 0, none⟩) 4 ca1, .slice (some ⟨B1, 0, none⟩) 2 cb1] 30) = W2 := ⟨_, rfl⟩
 have X1 : Blk W2 W1.heap.size 30 #[.int .i64 10, .int .i64 12, .int .i64 12, .slice (some ⟨A1, 0, none⟩) 4 ca1, .slice (some ⟨B1, 0, none⟩) 2 cb1] := by rw [← hW2]; exact Blk.new _ _ _ rfl
 have H1 : HallAt (fun _ => True) W2 (some ⟨A1, 0, none⟩) 4 (some ⟨B1, 0, none⟩) 2 (exHall 12) := by rw [← hW2]; exact (hH1.keep (Keeps.alloc _ _)).mono fun _ _ => trivial
 have Bq2 : Below w.heap.size w W2 := by rw [← hW2]; exact bl_alloc b1 _ (Nat.le_refl _)
 have x0 := X1.cell 0
 have x1 := X1.cell 1
 have x2 := X1.cell 2
 have x3 := X1.cell 3
 have x4 := X1.cell 4
 go_wp2_with fail
 clear hW2
 refine (twidth_any 0 12 W2 H1 (SliceOf.nil _ _ _ _ _) hca1 rfl rfl rfl).mono ?_
 rw [ex_w]
 rintro e W3 ⟨rfl, b3⟩
 obtain ⟨g2, hg2⟩ : ∃ g2, W3.heap.size = g2 := ⟨_, rfl⟩
 obtain ⟨W4, hW4⟩ : ∃ W4, W3.alloc (.cells #[.int .i64 1012, .int .i64 1014] 23) = W4 := ⟨_, rfl⟩
 have S2 : Blk W4 g2 23 #[.int .i64 1012, .int .i64 1014] := by rw [← hW4]; exact Blk.new _ _ _ hg2.symm
 have b24 : Below W2.heap.size W2 W4 := by rw [← hW4]; exact bl_alloc b3 _ (Nat.le_refl _)
 have X2 := X1.bl b24
 clear x0 x1 x2 x3 x4
 have x0 := X2.cell 0
 have x1 := X2.cell 1
 have x2 := X2.cell 2
 have x3 := X2.cell 3
 have x4 := X2.cell 4
 go_wp2_with fail
 clear hW4 hg2
 have H4 := Lib.hid (H1.keep (Keeps.below b24))
 have HX2 := Lib.hid X2
 clear x0 x1 x2 x3 x4
 have AS := Lib.hid (awE_stab W4.heap.size (.agg #[.int .i64 10, .int .i64 12, .int .i64 12, .slice (some ⟨A1, 0, none⟩) 4 ca1, .slice (some ⟨B1, 0, none⟩) 2 cb1]))
 refine wp_region_invs (InvE W4.heap.size W4 (awE W4.heap.size (.agg #[.int .i64 10, .int .i64 12, .int .i64 12, .slice (some ⟨A1, 0, none⟩) 4 ca1, .slice (some ⟨B1, 0, none⟩) 2 cb1])) 8) 9 (by kernel_rfl) (by kernel_rfl) (by kernel_rfl) (by rfl) ⟨(Below.refl _ _).drew, fun i h => by cases h⟩ ?step (by rfl) (by rfl) ?fin
 case step =>
  refine StepsI.cons ?_ (StepsI.cons ?_ (StepsI.cons ?_ (StepsI.cons ?_ (StepsI.cons ?_ (StepsI.cons ?_ (StepsI.cons ?_ (StepsI.cons ?_ (StepsI.cons ?_ StepsI.nil))))))))
  all_goals
   refine StepI.of ?_
   intro ls vs W K hI hl hw hU hK
   simp only [fillA, Act.put, List.setIfInBounds_toArray, List.set_cons_zero, List.set_cons_succ, Nat.zero_add, Nat.reduceAdd] at hK ⊢
   simp [waits, Region.binds] at hw
   have hC := hI.1
  ·have hR := HX2.out.bl hC
   have k0 := hR.cell 0
   have k1 := hR.cell 1
   have k2 := hR.cell 2
   have k3 := hR.cell 3
   have k4 := hR.cell 4
   go_simp
   exact hK _ _ (hI.step AS.out (Below.refl _ _) hC.size (by decide) rfl)
  ·go_simp
   refine (seen35_any W).mono ?_
   rintro e w' ⟨⟨v, rfl, A, c, hv, hS⟩, hb⟩
   have hsz := hC.size
   exact hK _ _ (hI.step AS.out hb hC.size (by decide) (fun _ => ⟨A, c, hv, hS.mono SeenR.good (fun k h => by omega)⟩))
  ·go_simp
   exact hK _ _ (hI.step AS.out (bl_alloc (Below.refl _ _) _ (Nat.le_refl _)) hC.size (by decide) (fun _ => IsIntsW8.new [0, 2] _ (by decide) hC.size))
  ·have h8 : ls 8 = false := (hU 8 _ rfl (by simp [waits, Region.binds])).1
   have h1 : vs 0 = _ := hI.2 0 (by simp [hw])
   obtain ⟨Aq, cq, h2, hS⟩ := hI.2 1 (by simp [hw]) h8
   obtain ⟨A', c', h3, hIn⟩ := hI.2 2 (by simp [hw]) h8
   simp only [h1, h2, h3] at hK ⊢
   go_simp
   refine (tgap_any (h := exHall 12) (l := exSeen) (tl := [0, 2]) 0 W (H4.out.keep (Keeps.below hC)) (hS.mono SeenR.good (fun _ _ => trivial)) hIn hca1 rfl rfl rfl).mono ?_
   rw [ex_g]
   rintro e w' ⟨rfl, hb⟩
   exact hK _ _ (hI.step AS.out hb hC.size (by decide) rfl)
  ·have h1 : vs 3 = _ := hI.2 3 (by simp [hw])
   simp only [h1] at hK ⊢
   go_simp
   exact hK _ _ (hI.step AS.out (Below.refl _ _) hC.size (by decide) rfl)
  ·have h1 : vs 4 = _ := hI.2 4 (by simp [hw])
   simp only [h1] at hK ⊢
   go_simp
   exact hK _ _ (hI.step AS.out (Below.refl _ _) hC.size (by decide) rfl)
  ·have h1 : vs 4 = _ := hI.2 4 (by simp [hw])
   simp only [h1] at hK ⊢
   go_simp
   exact hK _ _ (hI.step AS.out (Below.refl _ _) hC.size (by decide) rfl)
  ·have h8 : ls 8 = false := (hU 8 _ rfl (by simp [waits, Region.binds])).1
   go_simp
   exact hK _ _ (hI.step AS.out (bl_alloc (Below.refl _ _) _ (Nat.le_refl _)) hC.size (by decide) ⟨_, hC.size, rfl, by rw [h8]; exact Blk.new _ _ _ rfl⟩)
  have h1 : vs 5 = _ := hI.2 5 (by simp [hw])
  obtain ⟨g4, hg4, h4, hB4⟩ := hI.2 7 (by simp [hw])
  rw [hl] at hB4
  have z0 : W.cell? ⟨g4, 0, none⟩ = some (.int .i64 0) := hB4.cell 0
  have z1 : W.cell? ⟨g4, 1, none⟩ = some (.int .i64 0) := hB4.cell 1
  have fz0 := hB4.frozen 0
  have fz1 := hB4.frozen 1
  have hl4 := hB4.lt
  simp only [h1, h4] at hK ⊢
  go_simp
  refine hK undef _ ⟨bl_set (bl_set hC hg4 _) hg4 _, fun i hi => ?_⟩
  have hb8 : updB ls 8 8 = true := by unfold updB; rw [if_pos rfl]
  rw [hb8]
  match i, hi with
  | 0, hi => exact hI.2 0 hi
  | 1, _ => exact fun e => by cases e
  | 2, _ => exact fun e => by cases e
  | 3, hi => exact hI.2 3 hi
  | 4, hi => exact hI.2 4 hi
  | 5, hi => exact hI.2 5 hi
  | 6, hi => exact hI.2 6 hi
  | 7, _ => exact ⟨g4, hg4, h4, hB4.set2 _ _⟩
  | _ + 8, _ => trivial
 intro ls vs W hI hl hU
 have e6 : vs 6 = _ := hI.2 6 (hl 6 (by decide))
 obtain ⟨g4, hg4, h4, hB4⟩ := hI.2 7 (hl 7 (by decide))
 rw [hl 8 (by decide)] at hB4
 have S4 : Blk W g4 23 #[.int .i64 3, .int .i64 7] := hB4
 have b4 := hI.1
 simp only [fillA, Act.put, List.setIfInBounds_toArray, List.set_cons_zero, List.set_cons_succ, Nat.zero_add, Nat.reduceAdd, e6, h4]
 obtain ⟨u0, hu0⟩ : ∃ v0, vs 0 = v0 := ⟨_, rfl⟩
 obtain ⟨u1, hu1⟩ : ∃ v0, vs 1 = v0 := ⟨_, rfl⟩
 obtain ⟨u2, hu2⟩ : ∃ v0, vs 2 = v0 := ⟨_, rfl⟩
 obtain ⟨u3, hu3⟩ : ∃ v0, vs 3 = v0 := ⟨_, rfl⟩
 obtain ⟨u4, hu4⟩ : ∃ v0, vs 4 = v0 := ⟨_, rfl⟩
 obtain ⟨u5, hu5⟩ : ∃ v0, vs 5 = v0 := ⟨_, rfl⟩
 rw [hu0, hu1, hu2, hu3, hu4, hu5]
 clear hI hl hU e6 h4 hB4 AS hu0 hu1 hu2 hu3 hu4 hu5
 have h5 := HX2.out.bl b4
 have x0 := h5.cell 0
 have x1 := h5.cell 1
 have x2 := h5.cell 2
 have x3 := h5.cell 3
 have x4 := h5.cell 4
 have HH := Lib.hid (H4.out.keep (Keeps.below b4))
 have s2 := S2.bl b4
 clear S2 HX2 H4
 go_simp
 go_wp2_with fail
 clear b3 X1 X2 H1 hH1
 refine (twhy_any (h := exHall 12) (l := []) (tl := [2, 3]) 0 _ (HH.out.keep (Keeps.alloc _ _)) (SliceOf.nil _ _ _ _ _) (ints_blk (xs := [2, 3]) (S := fun _ => True) (t := 3) (Blk.new _ _ _ rfl) trivial (by decide)) hca1 rfl rfl rfl).mono ?_
 rw [ex_y]
 rintro e V1 ⟨rfl, c1⟩
 have d1 : Below W.heap.size W V1 := bl_call (bl_alloc (Below.refl _ _) _ (Nat.le_refl _)) c1 (Nat.le_refl _)
 have y0 := getc d1 x0
 have y1 := getc d1 x1
 have y2 := getc d1 x2
 have y3 := getc d1 x3
 have y4 := getc d1 x4
 go_wp2_with fail
 clear y0 y1 y2 y3 y4
 refine (tairs_any (h := exHall 12) (l := []) (tl := [0, 2]) 0 _ ((HH.out.keep (Keeps.below d1)).keep (Keeps.alloc _ _)) (SliceOf.nil _ _ _ _ _) (ints_blk (xs := [0, 2]) (S := fun _ => True) (t := 3) (Blk.new _ _ _ rfl) trivial (by decide)) hca1 rfl rfl rfl).mono ?_
 rw [ex_a]
 rintro e V2 ⟨rfl, c2⟩
 have d2 : Below W.heap.size W V2 := bl_call (bl_alloc d1 _ (Nat.le_refl _)) c2 (Nat.le_refl _)
 obtain ⟨g9, hg9⟩ : ∃ g9, V2.heap.size = g9 := ⟨_, rfl⟩
 obtain ⟨V3, hV3⟩ : ∃ V3, V2.alloc (.cells #[.int .i64 8, .int .i64 12] 23) = V3 := ⟨_, rfl⟩
 have S9 : Blk V3 g9 23 #[.int .i64 8, .int .i64 12] := by rw [← hV3]; exact Blk.new _ _ _ hg9.symm
 have d3 : Below W.heap.size W V3 := by rw [← hV3]; exact bl_alloc d2 _ (Nat.le_refl _)
 have y0 := getc d3 x0
 have y1 := getc d3 x1
 have y2 := getc d3 x2
 have y3 := getc d3 x3
 have y4 := getc d3 x4
 go_wp2_with fail
 clear hV3 hg9 y0 y1 y2 y3 y4 c1 c2 d1 d2
 refine (tlay_any (h := exHall 12) (l := []) V3 (HH.out.keep (Keeps.below d3)) (SliceOf.nil _ _ _ _ _) hca1 rfl rfl rfl).mono ?_
 rw [ex_l]
 rintro e V4 ⟨c4, Al, nl, cl, rfl, hL⟩
 have d4 := bl_call d3 c4 (Nat.le_refl _)
 go_wp2_with fail
 refine (hall34_any 9 V4).mono ?_
 rintro e V5 ⟨⟨v, rfl, A2, B2, ca2, cb2, rfl, hH2, hca2⟩, c5⟩
 have d5 := bl_call d4 c5 (Nat.le_refl _)
 go_wp2_with fail
 refine (tmust_any (h := exHall 9) (l := []) V5 (hH2.mono fun _ _ => trivial) (SliceOf.nil _ _ _ _ _) hca2 rfl rfl rfl).mono ?_
 rw [ex_m]
 rintro e V6 ⟨c6, Am, nm, cm, rfl, hM⟩
 have d6 := bl_call d5 c6 (Nat.le_refl _)
 go_wp2_with fail
 refine (hall34_any 6 V6).mono ?_
 rintro e V7 ⟨⟨v, rfl, A3, B3, ca3, cb3, rfl, hH3, hca3⟩, c7⟩
 have d7 := bl_call d6 c7 (Nat.le_refl _)
 go_wp2_with fail
 refine (tlay_any (h := exHall 6) (l := []) V7 (hH3.mono fun _ _ => trivial) (SliceOf.nil _ _ _ _ _) hca3 rfl rfl rfl).mono ?_
 rintro e V8 ⟨c8, An, nn, cn, rfl, hN⟩
 rw [ex_n]
 have d8 := bl_call d7 c8 (Nat.le_refl _)
 generalize (layR (exHall 6) []).2.1 = zz
 have e48 : Below V4.heap.size V4 V8 := bl_call (bl_call (bl_call c5 c6 (Nat.le_refl _)) c7 (Nat.le_refl _)) c8 (Nat.le_refl _)
 have HL := Lib.hid (hL.keep (SlR.good IntR.good) (Keeps.below e48))
 have HM := Lib.hid (hM.keep IntR.good (Keeps.below (bl_call c7 c8 (Nat.le_refl _))))
 have T9 := S9.bl (bl_call c4 e48 (Nat.le_refl _))
 have T2 := s2.bl d8
 have T4 := S4.bl d8
 have D8 := Lib.hid d8
 have HB8 : Hid (Below w.heap.size w V8) := (bl_call (bl_call (bl_call Bq2 b24 (Nat.le_refl _)) b4 (Nat.le_refl _)) d8 (Nat.le_refl _))
 have kk : Hid (∀ V, Below V8.heap.size V8 V → V.cell? ⟨g2, 0, none⟩ = some (.int .i64 1012) ∧ V.cell? ⟨g2, 1, none⟩ = some (.int .i64 1014) ∧ V.cell? ⟨g4, 0, none⟩ = some (.int .i64 3) ∧ V.cell? ⟨g4, 1, none⟩ = some (.int .i64 7) ∧ V.cell? ⟨g9, 0, none⟩ = some (.int .i64 8) ∧ V.cell? ⟨g9, 1, none⟩ = some (.int .i64 12)) :=
  fun V hb => ⟨(T2.bl hb).c0, (T2.bl hb).c1, (T4.bl hb).c0, (T4.bl hb).c1, (T9.bl hb).c0, (T9.bl hb).c1⟩
 clear hL hM hN S9 s2 S4 d3 d4 d5 d6 d7 d8 c4 c5 c6 c7 c8 e48 x0 x1 x2 x3 x4 hH2 hH3 HH h5 T2 T4 T9 b4 b24 Bq2 D8
 go_wp2_with fail
 refine wp_frame ?_
 intro a0 hsz hget hdf
 have b3 : a0.tmps[3]? = some (.int .i64 0) := (hget 3).trans (by kernel_rfl)
 have b5 : a0.tmps[5]? = some (.int .i64 0) := (hget 5).trans (by kernel_rfl)
 have b8 : a0.tmps[8]? = some (.int .i64 0) := (hget 8).trans (by kernel_rfl)
 have b10 : a0.tmps[10]? = some (.int .i64 0) := (hget 10).trans (by kernel_rfl)
 have b13 : a0.tmps[13]? = some (.int .i64 0) := (hget 13).trans (by kernel_rfl)
 have b15 : a0.tmps[15]? = some (.int .i64 0) := (hget 15).trans (by kernel_rfl)
 have b18 : a0.tmps[18]? = some (.int .i64 8) := (hget 18).trans (by kernel_rfl)
 have b2 : a0.tmps[2]? = some (.pointer (some ⟨g2, 0, none⟩)) := (hget 2).trans (by kernel_rfl)
 have b4 : a0.tmps[4]? = some (.pointer (some ⟨g4, 0, none⟩)) := (hget 4).trans (by kernel_rfl)
 have b9 : a0.tmps[9]? = some (.pointer (some ⟨g9, 0, none⟩)) := (hget 9).trans (by kernel_rfl)
 have b6 : a0.tmps[6]? = some (.int .i64 1) := (hget 6).trans (by kernel_rfl)
 have b7 : a0.tmps[7]? = some (.int .i64 11) := (hget 7).trans (by kernel_rfl)
 have b11 : a0.tmps[11]? = some (.slice Al nl cl) := (hget 11).trans (by kernel_rfl)
 have b12 : a0.tmps[12]? = some (.int .i64 7) := (hget 12).trans (by kernel_rfl)
 have b14 : a0.tmps[14]? = some (.slice Am nm cm) := (hget 14).trans (by kernel_rfl)
 replace hsz : a0.tmps.size = 127 := hsz.trans (by kernel_rfl)
 replace hdf : a0.defers = [] := hdf
 clear hget
 refine wp_region_list (fun W => Below V8.heap.size V8 W) (fun w w' => Below w.heap.size w w')
  [isV (.int .i64 0), isV (.bool true), isV (.bool true), isV (.int .i64 0), isV (.bool true), isV (.bool true), isV (.bool true), isV (.int .i64 0), isV (.bool true), isV (.bool true), isV (.bool true), isV (.int .i64 0), isV (.bool true), isV (.bool true), isV (.bool true), isV (.int .i64 0), isV (.bool true), isV (.bool true), isV (.bool true), isV (.int .i64 0), isV (.bool true), isV (.bool true), isV (.bool true), isV (.int .i64 8), isV (.bool true), isV (.bool true), isV (.bool true), isV (.agg #[.int .i64 1012, .int .i64 1014]), isV (.agg #[.int .i64 1012, .int .i64 1014]), isV (.bool true), isV (.bool true), isV (.bool true), isV (.agg #[.int .i64 3, .int .i64 7]), isV (.agg #[.int .i64 3, .int .i64 7]), isV (.bool true), isV (.bool true), isV (.bool true), isV (.int .i64 1), isV (.bool true), isV (.bool true), isV (.bool true), isV (.int .i64 11), isV (.bool true), isV (.bool true), isV (.bool true), isV (.agg #[.int .i64 8, .int .i64 12]), isV (.agg #[.int .i64 8, .int .i64 12]), isV (.bool true), isV (.bool true), isV (.bool true), isV (.slice Al nl cl), IsIntsW8 V8.heap.size [0, 2], IsIntsW8 V8.heap.size [3], IsRowsV V8.heap.size [[0, 2], [3]], isV (.bool true), isV (.bool true), isV (.bool true), isV (.int .i64 7), isV (.bool true), isV (.bool true), isV (.bool true), isV (.slice Am nm cm), IsIntsW8 V8.heap.size [0, 2, 3], isV (.bool true), isV (.bool true), isV (.bool true)]
  (by kernel_rfl) (by kernel_rfl) (by kernel_rfl) (by simp) (by simp) (Below.refl _ _).drew ?stabA ?stepA ?finA
 case stabA => exact (StabL.is (StabL.is (StabL.is (StabL.is (StabL.is (StabL.is (StabL.is (StabL.is (StabL.is (StabL.is (StabL.is (StabL.is (StabL.is (StabL.is (StabL.is (StabL.is (StabL.is (StabL.is (StabL.is (StabL.is (StabL.is (StabL.is (StabL.is (StabL.is (StabL.is (StabL.is (StabL.is (StabL.is (StabL.is (StabL.is (StabL.is (StabL.is (StabL.is (StabL.is (StabL.is (StabL.is (StabL.is (StabL.is (StabL.is (StabL.is (StabL.is (StabL.is (StabL.is (StabL.is (StabL.is (StabL.is (StabL.is (StabL.is (StabL.is (StabL.is (StabL.is (StabL.cons (fun v W V hC hX h => h.bl hX) (StabL.cons (fun v W V hC hX h => h.bl hX) (StabL.cons (fun v W V hC hX h => h.bl hX) (StabL.is (StabL.is (StabL.is (StabL.is (StabL.is (StabL.is (StabL.is (StabL.is (StabL.cons (fun v W V hC hX h => h.bl hX) (StabL.is (StabL.is (StabL.is StabL.nil))))))))))))))))))))))))))))))))))))))))))))))))))))))))))))))))))
 case stepA =>
  refine StepsL.isA ?_ (StepsL.isA ?_ (StepsL.isA ?_ (StepsL.isA ?_ (StepsL.isA ?_ (StepsL.isA ?_ (StepsL.isA ?_ (StepsL.isA ?_ (StepsL.isA ?_ (StepsL.isA ?_ (StepsL.isA ?_ (StepsL.isA ?_ (StepsL.isA ?_ (StepsL.isA ?_ (StepsL.isA ?_ (StepsL.isA ?_ (StepsL.isA ?_ (StepsL.isA ?_ (StepsL.isA ?_ (StepsL.isA ?_ (StepsL.isA ?_ (StepsL.isA ?_ (StepsL.isA ?_ (StepsL.isA ?_ (StepsL.isA ?_ (StepsL.isA ?_ (StepsL.isA ?_ (StepsL.isA ?_ (StepsL.isA ?_ (StepsL.isA ?_ (StepsL.isA ?_ (StepsL.isA ?_ (StepsL.isA ?_ (StepsL.isA ?_ (StepsL.isA ?_ (StepsL.isA ?_ (StepsL.isA ?_ (StepsL.isA ?_ (StepsL.isA ?_ (StepsL.isA ?_ (StepsL.isA ?_ (StepsL.isA ?_ (StepsL.isA ?_ (StepsL.isA ?_ (StepsL.isA ?_ (StepsL.isA ?_ (StepsL.isA ?_ (StepsL.isA ?_ (StepsL.isA ?_ (StepsL.isA ?_ (StepsL.isA ?_ (StepsL.consA ?_ (StepsL.consA ?_ (StepsL.consA ?_ (StepsL.isA ?_ (StepsL.isA ?_ (StepsL.isA ?_ (StepsL.isA ?_ (StepsL.isA ?_ (StepsL.isA ?_ (StepsL.isA ?_ (StepsL.isA ?_ (StepsL.consA ?_ (StepsL.isA ?_ (StepsL.isA ?_ (StepsL.isA ?_ StepsL.nil)))))))))))))))))))))))))))))))))))))))))))))))))))))))))))))))))
  all_goals intro vs a W K ha hC hD hU hK
  all_goals try rw [if_pos (by rfl)]
  ·have r3 : a.tmps[3]? = some (.int .i64 0) := by rw [ha, fillA_base0 (by kernel_rfl)]; exact b3
   clear ha hU hD
   go_simp
   exact hK _ hC (Below.refl _ _)
  ·have r62 := fq 62 0 ha hsz (by kernel_rfl) (by decide) (hD 0 (by simp [waits, Region.binds]))
   clear ha hU hD
   go_simp
   exact hK _ hC (Below.refl _ _)
  ·have r63 := fq 63 1 ha hsz (by kernel_rfl) (by decide) (hD 1 (by simp [waits, Region.binds]))
   clear ha hU hD
   go_simp
   exact hK _ hC (Below.refl _ _)
  ·have r64 := fg 64 2 ha hsz (by kernel_rfl) (by decide)
   have q2 : vs 2 = .bool true := hD 2 (by simp [waits, Region.binds])
   rw [q2] at r64
   have r5 : a.tmps[5]? = some (.int .i64 0) := by rw [ha, fillA_base0 (by kernel_rfl)]; exact b5
   clear ha hU hD
   rw [if_pos (by simp [Region.wanted, yielded, r64])]
   go_simp
   exact hK _ hC (Below.refl _ _)
  ·have r64 := fg 64 2 ha hsz (by kernel_rfl) (by decide)
   have q2 : vs 2 = .bool true := hD 2 (by simp [waits, Region.binds])
   rw [q2] at r64
   have r65 := fq 65 3 ha hsz (by kernel_rfl) (by decide) (hD 3 (by simp [waits, Region.binds]))
   clear ha hU hD
   rw [if_pos (by simp [Region.wanted, yielded, r64])]
   go_simp
   exact hK _ hC (Below.refl _ _)
  ·have r64 := fq 64 2 ha hsz (by kernel_rfl) (by decide) (hD 2 (by simp [waits, Region.binds]))
   have r66 := fq 66 4 ha hsz (by kernel_rfl) (by decide) (hD 4 (by simp [waits, Region.binds]))
   clear ha hU hD
   go_simp
   exact hK _ hC (Below.refl _ _)
  ·have r67 := fq 67 5 ha hsz (by kernel_rfl) (by decide) (hD 5 (by simp [waits, Region.binds]))
   clear ha hU hD
   go_simp
   exact hK _ hC (Below.refl _ _)
  ·have r68 := fg 68 6 ha hsz (by kernel_rfl) (by decide)
   have q6 : vs 6 = .bool true := hD 6 (by simp [waits, Region.binds])
   rw [q6] at r68
   have r8 : a.tmps[8]? = some (.int .i64 0) := by rw [ha, fillA_base0 (by kernel_rfl)]; exact b8
   clear ha hU hD
   rw [if_pos (by simp [Region.wanted, yielded, r68])]
   go_simp
   exact hK _ hC (Below.refl _ _)
  ·have r68 := fg 68 6 ha hsz (by kernel_rfl) (by decide)
   have q6 : vs 6 = .bool true := hD 6 (by simp [waits, Region.binds])
   rw [q6] at r68
   have r69 := fq 69 7 ha hsz (by kernel_rfl) (by decide) (hD 7 (by simp [waits, Region.binds]))
   clear ha hU hD
   rw [if_pos (by simp [Region.wanted, yielded, r68])]
   go_simp
   exact hK _ hC (Below.refl _ _)
  ·have r68 := fq 68 6 ha hsz (by kernel_rfl) (by decide) (hD 6 (by simp [waits, Region.binds]))
   have r70 := fq 70 8 ha hsz (by kernel_rfl) (by decide) (hD 8 (by simp [waits, Region.binds]))
   clear ha hU hD
   go_simp
   exact hK _ hC (Below.refl _ _)
  ·have r71 := fq 71 9 ha hsz (by kernel_rfl) (by decide) (hD 9 (by simp [waits, Region.binds]))
   clear ha hU hD
   go_simp
   exact hK _ hC (Below.refl _ _)
  ·have r72 := fg 72 10 ha hsz (by kernel_rfl) (by decide)
   have q10 : vs 10 = .bool true := hD 10 (by simp [waits, Region.binds])
   rw [q10] at r72
   have r10 : a.tmps[10]? = some (.int .i64 0) := by rw [ha, fillA_base0 (by kernel_rfl)]; exact b10
   clear ha hU hD
   rw [if_pos (by simp [Region.wanted, yielded, r72])]
   go_simp
   exact hK _ hC (Below.refl _ _)
  ·have r72 := fg 72 10 ha hsz (by kernel_rfl) (by decide)
   have q10 : vs 10 = .bool true := hD 10 (by simp [waits, Region.binds])
   rw [q10] at r72
   have r73 := fq 73 11 ha hsz (by kernel_rfl) (by decide) (hD 11 (by simp [waits, Region.binds]))
   clear ha hU hD
   rw [if_pos (by simp [Region.wanted, yielded, r72])]
   go_simp
   exact hK _ hC (Below.refl _ _)
  ·have r72 := fq 72 10 ha hsz (by kernel_rfl) (by decide) (hD 10 (by simp [waits, Region.binds]))
   have r74 := fq 74 12 ha hsz (by kernel_rfl) (by decide) (hD 12 (by simp [waits, Region.binds]))
   clear ha hU hD
   go_simp
   exact hK _ hC (Below.refl _ _)
  ·have r75 := fq 75 13 ha hsz (by kernel_rfl) (by decide) (hD 13 (by simp [waits, Region.binds]))
   clear ha hU hD
   go_simp
   exact hK _ hC (Below.refl _ _)
  ·have r76 := fg 76 14 ha hsz (by kernel_rfl) (by decide)
   have q14 : vs 14 = .bool true := hD 14 (by simp [waits, Region.binds])
   rw [q14] at r76
   have r13 : a.tmps[13]? = some (.int .i64 0) := by rw [ha, fillA_base0 (by kernel_rfl)]; exact b13
   clear ha hU hD
   rw [if_pos (by simp [Region.wanted, yielded, r76])]
   go_simp
   exact hK _ hC (Below.refl _ _)
  ·have r76 := fg 76 14 ha hsz (by kernel_rfl) (by decide)
   have q14 : vs 14 = .bool true := hD 14 (by simp [waits, Region.binds])
   rw [q14] at r76
   have r77 := fq 77 15 ha hsz (by kernel_rfl) (by decide) (hD 15 (by simp [waits, Region.binds]))
   clear ha hU hD
   rw [if_pos (by simp [Region.wanted, yielded, r76])]
   go_simp
   exact hK _ hC (Below.refl _ _)
  ·have r76 := fq 76 14 ha hsz (by kernel_rfl) (by decide) (hD 14 (by simp [waits, Region.binds]))
   have r78 := fq 78 16 ha hsz (by kernel_rfl) (by decide) (hD 16 (by simp [waits, Region.binds]))
   clear ha hU hD
   go_simp
   exact hK _ hC (Below.refl _ _)
  ·have r79 := fq 79 17 ha hsz (by kernel_rfl) (by decide) (hD 17 (by simp [waits, Region.binds]))
   clear ha hU hD
   go_simp
   exact hK _ hC (Below.refl _ _)
  ·have r80 := fg 80 18 ha hsz (by kernel_rfl) (by decide)
   have q18 : vs 18 = .bool true := hD 18 (by simp [waits, Region.binds])
   rw [q18] at r80
   have r15 : a.tmps[15]? = some (.int .i64 0) := by rw [ha, fillA_base0 (by kernel_rfl)]; exact b15
   clear ha hU hD
   rw [if_pos (by simp [Region.wanted, yielded, r80])]
   go_simp
   exact hK _ hC (Below.refl _ _)
  ·have r80 := fg 80 18 ha hsz (by kernel_rfl) (by decide)
   have q18 : vs 18 = .bool true := hD 18 (by simp [waits, Region.binds])
   rw [q18] at r80
   have r81 := fq 81 19 ha hsz (by kernel_rfl) (by decide) (hD 19 (by simp [waits, Region.binds]))
   clear ha hU hD
   rw [if_pos (by simp [Region.wanted, yielded, r80])]
   go_simp
   exact hK _ hC (Below.refl _ _)
  ·have r80 := fq 80 18 ha hsz (by kernel_rfl) (by decide) (hD 18 (by simp [waits, Region.binds]))
   have r82 := fq 82 20 ha hsz (by kernel_rfl) (by decide) (hD 20 (by simp [waits, Region.binds]))
   clear ha hU hD
   go_simp
   exact hK _ hC (Below.refl _ _)
  ·have r83 := fq 83 21 ha hsz (by kernel_rfl) (by decide) (hD 21 (by simp [waits, Region.binds]))
   clear ha hU hD
   go_simp
   exact hK _ hC (Below.refl _ _)
  ·have r84 := fg 84 22 ha hsz (by kernel_rfl) (by decide)
   have q22 : vs 22 = .bool true := hD 22 (by simp [waits, Region.binds])
   rw [q22] at r84
   have r18 : a.tmps[18]? = some (.int .i64 8) := by rw [ha, fillA_base0 (by kernel_rfl)]; exact b18
   clear ha hU hD
   rw [if_pos (by simp [Region.wanted, yielded, r84])]
   go_simp
   exact hK _ hC (Below.refl _ _)
  ·have r84 := fg 84 22 ha hsz (by kernel_rfl) (by decide)
   have q22 : vs 22 = .bool true := hD 22 (by simp [waits, Region.binds])
   rw [q22] at r84
   have r85 := fq 85 23 ha hsz (by kernel_rfl) (by decide) (hD 23 (by simp [waits, Region.binds]))
   clear ha hU hD
   rw [if_pos (by simp [Region.wanted, yielded, r84])]
   go_simp
   exact hK _ hC (Below.refl _ _)
  ·have r84 := fq 84 22 ha hsz (by kernel_rfl) (by decide) (hD 22 (by simp [waits, Region.binds]))
   have r86 := fq 86 24 ha hsz (by kernel_rfl) (by decide) (hD 24 (by simp [waits, Region.binds]))
   clear ha hU hD
   go_simp
   exact hK _ hC (Below.refl _ _)
  ·have r87 := fq 87 25 ha hsz (by kernel_rfl) (by decide) (hD 25 (by simp [waits, Region.binds]))
   clear ha hU hD
   go_simp
   exact hK _ hC (Below.refl _ _)
  ·have r88 := fg 88 26 ha hsz (by kernel_rfl) (by decide)
   have q26 : vs 26 = .bool true := hD 26 (by simp [waits, Region.binds])
   rw [q26] at r88
   have r2 : a.tmps[2]? = some (.pointer (some ⟨g2, 0, none⟩)) := by rw [ha, fillA_base0 (by kernel_rfl)]; exact b2
   clear ha hU hD
   rw [if_pos (by simp [Region.wanted, yielded, r88])]
   obtain ⟨k0, k1, k2, k3, k4, k5⟩ := kk.out W hC
   go_simp
   exact hK _ hC (Below.refl _ _)
  ·have r88 := fg 88 26 ha hsz (by kernel_rfl) (by decide)
   have q26 : vs 26 = .bool true := hD 26 (by simp [waits, Region.binds])
   rw [q26] at r88
   clear ha hU hD
   rw [if_pos (by simp [Region.wanted, yielded, r88])]
   go_simp
   refine (span8_any 1012 1014 W).mono ?_
   rintro e w' ⟨rfl, hb⟩
   exact hK _ (bl_call hC hb (Nat.le_refl _)) hb
  ·have r88 := fg 88 26 ha hsz (by kernel_rfl) (by decide)
   have q26 : vs 26 = .bool true := hD 26 (by simp [waits, Region.binds])
   rw [q26] at r88
   have r89 := fq 89 27 ha hsz (by kernel_rfl) (by decide) (hD 27 (by simp [waits, Region.binds]))
   have r90 := fq 90 28 ha hsz (by kernel_rfl) (by decide) (hD 28 (by simp [waits, Region.binds]))
   clear ha hU hD
   rw [if_pos (by simp [Region.wanted, yielded, r88])]
   go_simp
   exact hK _ hC (Below.refl _ _)
  ·have r88 := fq 88 26 ha hsz (by kernel_rfl) (by decide) (hD 26 (by simp [waits, Region.binds]))
   have r91 := fq 91 29 ha hsz (by kernel_rfl) (by decide) (hD 29 (by simp [waits, Region.binds]))
   clear ha hU hD
   go_simp
   exact hK _ hC (Below.refl _ _)
  ·have r92 := fq 92 30 ha hsz (by kernel_rfl) (by decide) (hD 30 (by simp [waits, Region.binds]))
   clear ha hU hD
   go_simp
   exact hK _ hC (Below.refl _ _)
  ·have r93 := fg 93 31 ha hsz (by kernel_rfl) (by decide)
   have q31 : vs 31 = .bool true := hD 31 (by simp [waits, Region.binds])
   rw [q31] at r93
   have r4 : a.tmps[4]? = some (.pointer (some ⟨g4, 0, none⟩)) := by rw [ha, fillA_base0 (by kernel_rfl)]; exact b4
   clear ha hU hD
   rw [if_pos (by simp [Region.wanted, yielded, r93])]
   obtain ⟨k0, k1, k2, k3, k4, k5⟩ := kk.out W hC
   go_simp
   exact hK _ hC (Below.refl _ _)
  ·have r93 := fg 93 31 ha hsz (by kernel_rfl) (by decide)
   have q31 : vs 31 = .bool true := hD 31 (by simp [waits, Region.binds])
   rw [q31] at r93
   clear ha hU hD
   rw [if_pos (by simp [Region.wanted, yielded, r93])]
   go_simp
   refine (span8_any 3 7 W).mono ?_
   rintro e w' ⟨rfl, hb⟩
   exact hK _ (bl_call hC hb (Nat.le_refl _)) hb
  ·have r93 := fg 93 31 ha hsz (by kernel_rfl) (by decide)
   have q31 : vs 31 = .bool true := hD 31 (by simp [waits, Region.binds])
   rw [q31] at r93
   have r94 := fq 94 32 ha hsz (by kernel_rfl) (by decide) (hD 32 (by simp [waits, Region.binds]))
   have r95 := fq 95 33 ha hsz (by kernel_rfl) (by decide) (hD 33 (by simp [waits, Region.binds]))
   clear ha hU hD
   rw [if_pos (by simp [Region.wanted, yielded, r93])]
   go_simp
   exact hK _ hC (Below.refl _ _)
  ·have r93 := fq 93 31 ha hsz (by kernel_rfl) (by decide) (hD 31 (by simp [waits, Region.binds]))
   have r96 := fq 96 34 ha hsz (by kernel_rfl) (by decide) (hD 34 (by simp [waits, Region.binds]))
   clear ha hU hD
   go_simp
   exact hK _ hC (Below.refl _ _)
  ·have r97 := fq 97 35 ha hsz (by kernel_rfl) (by decide) (hD 35 (by simp [waits, Region.binds]))
   clear ha hU hD
   go_simp
   exact hK _ hC (Below.refl _ _)
  ·have r98 := fg 98 36 ha hsz (by kernel_rfl) (by decide)
   have q36 : vs 36 = .bool true := hD 36 (by simp [waits, Region.binds])
   rw [q36] at r98
   have r6 : a.tmps[6]? = some (.int .i64 1) := by rw [ha, fillA_base0 (by kernel_rfl)]; exact b6
   clear ha hU hD
   rw [if_pos (by simp [Region.wanted, yielded, r98])]
   go_simp
   exact hK _ hC (Below.refl _ _)
  ·have r98 := fg 98 36 ha hsz (by kernel_rfl) (by decide)
   have q36 : vs 36 = .bool true := hD 36 (by simp [waits, Region.binds])
   rw [q36] at r98
   have r99 := fq 99 37 ha hsz (by kernel_rfl) (by decide) (hD 37 (by simp [waits, Region.binds]))
   clear ha hU hD
   rw [if_pos (by simp [Region.wanted, yielded, r98])]
   go_simp
   exact hK _ hC (Below.refl _ _)
  ·have r98 := fq 98 36 ha hsz (by kernel_rfl) (by decide) (hD 36 (by simp [waits, Region.binds]))
   have r100 := fq 100 38 ha hsz (by kernel_rfl) (by decide) (hD 38 (by simp [waits, Region.binds]))
   clear ha hU hD
   go_simp
   exact hK _ hC (Below.refl _ _)
  ·have r101 := fq 101 39 ha hsz (by kernel_rfl) (by decide) (hD 39 (by simp [waits, Region.binds]))
   clear ha hU hD
   go_simp
   exact hK _ hC (Below.refl _ _)
  ·have r102 := fg 102 40 ha hsz (by kernel_rfl) (by decide)
   have q40 : vs 40 = .bool true := hD 40 (by simp [waits, Region.binds])
   rw [q40] at r102
   have r7 : a.tmps[7]? = some (.int .i64 11) := by rw [ha, fillA_base0 (by kernel_rfl)]; exact b7
   clear ha hU hD
   rw [if_pos (by simp [Region.wanted, yielded, r102])]
   go_simp
   exact hK _ hC (Below.refl _ _)
  ·have r102 := fg 102 40 ha hsz (by kernel_rfl) (by decide)
   have q40 : vs 40 = .bool true := hD 40 (by simp [waits, Region.binds])
   rw [q40] at r102
   have r103 := fq 103 41 ha hsz (by kernel_rfl) (by decide) (hD 41 (by simp [waits, Region.binds]))
   clear ha hU hD
   rw [if_pos (by simp [Region.wanted, yielded, r102])]
   go_simp
   exact hK _ hC (Below.refl _ _)
  ·have r102 := fq 102 40 ha hsz (by kernel_rfl) (by decide) (hD 40 (by simp [waits, Region.binds]))
   have r104 := fq 104 42 ha hsz (by kernel_rfl) (by decide) (hD 42 (by simp [waits, Region.binds]))
   clear ha hU hD
   go_simp
   exact hK _ hC (Below.refl _ _)
  ·have r105 := fq 105 43 ha hsz (by kernel_rfl) (by decide) (hD 43 (by simp [waits, Region.binds]))
   clear ha hU hD
   go_simp
   exact hK _ hC (Below.refl _ _)
  ·have r106 := fg 106 44 ha hsz (by kernel_rfl) (by decide)
   have q44 : vs 44 = .bool true := hD 44 (by simp [waits, Region.binds])
   rw [q44] at r106
   have r9 : a.tmps[9]? = some (.pointer (some ⟨g9, 0, none⟩)) := by rw [ha, fillA_base0 (by kernel_rfl)]; exact b9
   clear ha hU hD
   rw [if_pos (by simp [Region.wanted, yielded, r106])]
   obtain ⟨k0, k1, k2, k3, k4, k5⟩ := kk.out W hC
   go_simp
   exact hK _ hC (Below.refl _ _)
  ·have r106 := fg 106 44 ha hsz (by kernel_rfl) (by decide)
   have q44 : vs 44 = .bool true := hD 44 (by simp [waits, Region.binds])
   rw [q44] at r106
   clear ha hU hD
   rw [if_pos (by simp [Region.wanted, yielded, r106])]
   go_simp
   refine (span8_any 8 12 W).mono ?_
   rintro e w' ⟨rfl, hb⟩
   exact hK _ (bl_call hC hb (Nat.le_refl _)) hb
  ·have r106 := fg 106 44 ha hsz (by kernel_rfl) (by decide)
   have q44 : vs 44 = .bool true := hD 44 (by simp [waits, Region.binds])
   rw [q44] at r106
   have r107 := fq 107 45 ha hsz (by kernel_rfl) (by decide) (hD 45 (by simp [waits, Region.binds]))
   have r108 := fq 108 46 ha hsz (by kernel_rfl) (by decide) (hD 46 (by simp [waits, Region.binds]))
   clear ha hU hD
   rw [if_pos (by simp [Region.wanted, yielded, r106])]
   go_simp
   exact hK _ hC (Below.refl _ _)
  ·have r106 := fq 106 44 ha hsz (by kernel_rfl) (by decide) (hD 44 (by simp [waits, Region.binds]))
   have r109 := fq 109 47 ha hsz (by kernel_rfl) (by decide) (hD 47 (by simp [waits, Region.binds]))
   clear ha hU hD
   go_simp
   exact hK _ hC (Below.refl _ _)
  ·have r110 := fq 110 48 ha hsz (by kernel_rfl) (by decide) (hD 48 (by simp [waits, Region.binds]))
   clear ha hU hD
   go_simp
   exact hK _ hC (Below.refl _ _)
  ·have r111 := fg 111 49 ha hsz (by kernel_rfl) (by decide)
   have q49 : vs 49 = .bool true := hD 49 (by simp [waits, Region.binds])
   rw [q49] at r111
   have r11 : a.tmps[11]? = some (.slice Al nl cl) := by rw [ha, fillA_base0 (by kernel_rfl)]; exact b11
   clear ha hU hD
   rw [if_pos (by simp [Region.wanted, yielded, r111])]
   go_simp
   exact hK _ hC (Below.refl _ _)
  ·have r111 := fg 111 49 ha hsz (by kernel_rfl) (by decide)
   have q49 : vs 49 = .bool true := hD 49 (by simp [waits, Region.binds])
   rw [q49] at r111
   clear ha hU hD
   rw [if_pos (by simp [Region.wanted, yielded, r111])]
   go_simp
   exact hK _ _ (bl_alloc hC _ (Nat.le_refl _)) (bl_alloc (Below.refl _ _) _ (Nat.le_refl _)) (IsIntsW8.new [0, 2] _ (by decide) hC.size)
  ·have r111 := fg 111 49 ha hsz (by kernel_rfl) (by decide)
   have q49 : vs 49 = .bool true := hD 49 (by simp [waits, Region.binds])
   rw [q49] at r111
   clear ha hU hD
   rw [if_pos (by simp [Region.wanted, yielded, r111])]
   go_simp
   exact hK _ _ (bl_alloc hC _ (Nat.le_refl _)) (bl_alloc (Below.refl _ _) _ (Nat.le_refl _)) (IsIntsW8.new [3] _ (by decide) hC.size)
  ·have r111 := fg 111 49 ha hsz (by kernel_rfl) (by decide)
   have q49 : vs 49 = .bool true := hD 49 (by simp [waits, Region.binds])
   rw [q49] at r111
   have r113 := fg 113 51 ha hsz (by kernel_rfl) (by decide)
   have q51 : IsIntsW8 V8.heap.size [0, 2] (vs 51) W := hD 51 (by simp [waits, Region.binds])
   obtain ⟨A113, c113, q51, hI113⟩ := q51
   rw [q51] at r113
   have r114 := fg 114 52 ha hsz (by kernel_rfl) (by decide)
   have q52 : IsIntsW8 V8.heap.size [3] (vs 52) W := hD 52 (by simp [waits, Region.binds])
   obtain ⟨A114, c114, q52, hI114⟩ := q52
   rw [q52] at r114
   clear ha hU hD
   rw [if_pos (by simp [Region.wanted, yielded, r111])]
   go_simp
   exact hK _ _ (bl_alloc hC _ (Nat.le_refl _)) (bl_alloc (Below.refl _ _) _ (Nat.le_refl _)) (IsRowsV.new hI113 hI114 hC.size)
  ·have r111 := fg 111 49 ha hsz (by kernel_rfl) (by decide)
   have q49 : vs 49 = .bool true := hD 49 (by simp [waits, Region.binds])
   rw [q49] at r111
   have r112 := fq 112 50 ha hsz (by kernel_rfl) (by decide) (hD 50 (by simp [waits, Region.binds]))
   have r115 := fg 115 53 ha hsz (by kernel_rfl) (by decide)
   have q53 : IsRowsV V8.heap.size [[0, 2], [3]] (vs 53) W := hD 53 (by simp [waits, Region.binds])
   obtain ⟨A115, c115, q53, hI115⟩ := q53
   rw [q53] at r115
   clear ha hU hD
   rw [if_pos (by simp [Region.wanted, yielded, r111])]
   go_simp
   refine (rows_any W (HL.out.keep (SlR.good IntR.good) (Keeps.below hC)) hI115).mono ?_
   rintro e w' ⟨rfl, q, rfl⟩
   rw [decide_eq_true rfl]
   exact hK _ (bl_drewN hC q) (bl_drewN (Below.refl _ _) q)
  ·have r111 := fq 111 49 ha hsz (by kernel_rfl) (by decide) (hD 49 (by simp [waits, Region.binds]))
   have r116 := fq 116 54 ha hsz (by kernel_rfl) (by decide) (hD 54 (by simp [waits, Region.binds]))
   clear ha hU hD
   go_simp
   exact hK _ hC (Below.refl _ _)
  ·have r117 := fq 117 55 ha hsz (by kernel_rfl) (by decide) (hD 55 (by simp [waits, Region.binds]))
   clear ha hU hD
   go_simp
   exact hK _ hC (Below.refl _ _)
  ·have r118 := fg 118 56 ha hsz (by kernel_rfl) (by decide)
   have q56 : vs 56 = .bool true := hD 56 (by simp [waits, Region.binds])
   rw [q56] at r118
   have r12 : a.tmps[12]? = some (.int .i64 7) := by rw [ha, fillA_base0 (by kernel_rfl)]; exact b12
   clear ha hU hD
   rw [if_pos (by simp [Region.wanted, yielded, r118])]
   go_simp
   exact hK _ hC (Below.refl _ _)
  ·have r118 := fg 118 56 ha hsz (by kernel_rfl) (by decide)
   have q56 : vs 56 = .bool true := hD 56 (by simp [waits, Region.binds])
   rw [q56] at r118
   have r119 := fq 119 57 ha hsz (by kernel_rfl) (by decide) (hD 57 (by simp [waits, Region.binds]))
   clear ha hU hD
   rw [if_pos (by simp [Region.wanted, yielded, r118])]
   go_simp
   exact hK _ hC (Below.refl _ _)
  ·have r118 := fq 118 56 ha hsz (by kernel_rfl) (by decide) (hD 56 (by simp [waits, Region.binds]))
   have r120 := fq 120 58 ha hsz (by kernel_rfl) (by decide) (hD 58 (by simp [waits, Region.binds]))
   clear ha hU hD
   go_simp
   exact hK _ hC (Below.refl _ _)
  ·have r121 := fq 121 59 ha hsz (by kernel_rfl) (by decide) (hD 59 (by simp [waits, Region.binds]))
   clear ha hU hD
   go_simp
   exact hK _ hC (Below.refl _ _)
  ·have r122 := fg 122 60 ha hsz (by kernel_rfl) (by decide)
   have q60 : vs 60 = .bool true := hD 60 (by simp [waits, Region.binds])
   rw [q60] at r122
   have r14 : a.tmps[14]? = some (.slice Am nm cm) := by rw [ha, fillA_base0 (by kernel_rfl)]; exact b14
   clear ha hU hD
   rw [if_pos (by simp [Region.wanted, yielded, r122])]
   go_simp
   exact hK _ hC (Below.refl _ _)
  ·have r122 := fg 122 60 ha hsz (by kernel_rfl) (by decide)
   have q60 : vs 60 = .bool true := hD 60 (by simp [waits, Region.binds])
   rw [q60] at r122
   clear ha hU hD
   rw [if_pos (by simp [Region.wanted, yielded, r122])]
   go_simp
   exact hK _ _ (bl_alloc hC _ (Nat.le_refl _)) (bl_alloc (Below.refl _ _) _ (Nat.le_refl _)) (IsIntsW8.new [0, 2, 3] _ (by decide) hC.size)
  ·have r122 := fg 122 60 ha hsz (by kernel_rfl) (by decide)
   have q60 : vs 60 = .bool true := hD 60 (by simp [waits, Region.binds])
   rw [q60] at r122
   have r123 := fq 123 61 ha hsz (by kernel_rfl) (by decide) (hD 61 (by simp [waits, Region.binds]))
   have r124 := fg 124 62 ha hsz (by kernel_rfl) (by decide)
   have q62 : IsIntsW8 V8.heap.size [0, 2, 3] (vs 62) W := hD 62 (by simp [waits, Region.binds])
   obtain ⟨A124, c124, q62, hI124⟩ := q62
   rw [q62] at r124
   clear ha hU hD
   rw [if_pos (by simp [Region.wanted, yielded, r122])]
   go_simp
   refine (ints_any W (HM.out.keep IntR.good (Keeps.below hC)) hI124).mono ?_
   rintro e w' ⟨rfl, q, rfl⟩
   rw [decide_eq_true rfl]
   exact hK _ (bl_drewN hC q) (bl_drewN (Below.refl _ _) q)
  ·have r122 := fq 122 60 ha hsz (by kernel_rfl) (by decide) (hD 60 (by simp [waits, Region.binds]))
   have r125 := fq 125 63 ha hsz (by kernel_rfl) (by decide) (hD 63 (by simp [waits, Region.binds]))
   clear ha hU hD
   go_simp
   exact hK _ hC (Below.refl _ _)
  have r126 := fq 126 64 ha hsz (by kernel_rfl) (by decide) (hD 64 (by simp [waits, Region.binds]))
  clear ha hU hD
  go_simp
  exact hK _ hC (Below.refl _ _)
 refine Fin1.none (Nat.le_refl _) ?_
 intro vs W a1 hC hE ha
 have e0 : vs 65 = .bool true := hE 65 (by simp)
 have r0 : a1.tmps[0]? = some (vs 65) := by rw [ha]; exact fillA_get0 (j := 65) (by kernel_rfl) (by rw [hsz]; decide)
 have hdf1 : a1.defers = [] := by rw [ha, fillA_defers]; exact hdf
 rw [e0] at r0
 have hBF := bl_call HB8.out hC (Nat.le_refl _)
 clear ha hE hC e0
 go_simp
 go_wp2
 refine bodyPost_ret (results_tmp rfl _ _ _) hdf1 ?_
 exact ⟨by simp [r0], hBF⟩
end Go.Proofs.YtdbfincinjoppaaGreat
