/- Walks, layer 7: the law CastSizes. -/
import Derived.Test.YtnaadjhiahjlfaaCKLaw4
import Derived.Test.YtnaadjhiahjlfaaCKRefs2
set_option linter.unusedVariables false
set_option linter.unusedSimpArgs false
set_option linter.all false
namespace Go.Proofs.Ytnaadjhiahjlfaa
open Go.RowKit Go.Shelf

set_option maxRecDepth 100000 in
set_option maxHeartbeats 4000000 in
theorem sizesLaw_any {A C : Option Addr} {n ca q cc : Nat} {s : Shop} {l : List SeenC} {klo khi : Int} (t a : Int) (w : World) (g : Moulds (fun _ => True) w A n s.moulds) (gs : SeenCs (fun _ => True) w C q l) (hca : n ≤ ca) (h1 : s.klo = klo) (h2 : s.khi = khi) :
    Calls Try.prog 4 #[.agg #[.int .i64 klo, .int .i64 khi, .slice A n ca], .slice C q cc, .agg #[.int .i64 t, .int .i64 a]] w fun e w' => e = .returned (.bool true) ∧ Below w.heap.size w w' := by
  obtain ⟨W, hW⟩ : ∃ W, (w.alloc (.cells #[.int .i64 klo, .int .i64 khi, .slice A n ca] 46)).alloc (.cells #[.int .i64 t, .int .i64 a] 49) = W := ⟨_, rfl⟩
  have X : Blk W w.heap.size 46 #[.int .i64 klo, .int .i64 khi, .slice A n ca] := by rw [← hW]; exact (Blk.new _ _ _ rfl).alloc _
  have Z : Blk W (w.heap.size + 1) 49 #[.int .i64 t, .int .i64 a] := by rw [← hW]; exact Blk.new _ _ _ (by simp)
  have hBW : Below w.heap.size w W := by rw [← hW]; exact bl_alloc (bl_alloc (Below.refl _ _) _ (Nat.le_refl _)) _ (Nat.le_refl _)
  have HG : Hid (∀ V, Below W.heap.size W V → Moulds (fun _ => True) V A n s.moulds) := fun V hb => (g.keep MouldR.good (Keeps.below hBW)).keep MouldR.good (Keeps.below hb)
  have HS : Hid (∀ V, Below W.heap.size W V → SeenCs (fun _ => True) V C q l) := fun V hb => (gs.keep SeenCR.good (Keeps.below hBW)).keep SeenCR.good (Keeps.below hb)
  have kk : Hid (∀ V, Below W.heap.size W V → V.cell? ⟨w.heap.size, 0, none⟩ = some (.int .i64 klo) ∧ V.cell? ⟨w.heap.size, 1, none⟩ = some (.int .i64 khi) ∧ V.cell? ⟨w.heap.size, 2, none⟩ = some (.slice A n ca) ∧ V.cell? ⟨w.heap.size + 1, 0, none⟩ = some (.int .i64 t) ∧ V.cell? ⟨w.heap.size + 1, 1, none⟩ = some (.int .i64 a)) :=
    fun V hb => ⟨(X.bl hb).cell 0, (X.bl hb).cell 1, (X.bl hb).cell 2, (Z.bl hb).cell 0, (Z.bl hb).cell 1⟩
  clear X Z g gs
  obtain ⟨x0, x1, x2, _, _⟩ := kk.out W (Below.refl _ _)
  go_enter Try.func4, Try.ntmps4
  go_wp2_with fail
  clear hW x0 x1 x2
  refine (kcheck_any W (HG.out W (Below.refl _ _)) hca h1 h2).mono ?_
  rintro e V1 ⟨rfl, b1⟩
  obtain ⟨x0, x1, x2, _, _⟩ := kk.out V1 b1
  go_wp2_with fail
  clear x0 x1 x2
  refine (rcheck7_any V1 (HG.out V1 b1) h1 h2).mono ?_
  rintro e V2 ⟨rfl, c2⟩
  have b2 := bl_call b1 c2 (Nat.le_refl _)
  generalize (check7 s).1 = p1
  generalize (check7 s).2.1 = p2
  generalize (check7 s).2.2 = p3
  obtain ⟨x0, x1, x2, _, _⟩ := kk.out V2 b2
  go_wp2_with fail
  clear x0 x1 x2
  refine (kseen_any V2 (HG.out V2 b2) (HS.out V2 b2) hca h1 h2).mono ?_
  rintro e V3 ⟨rfl, c3⟩
  have b3 := bl_call b2 c3 (Nat.le_refl _)
  obtain ⟨x0, x1, x2, _, _⟩ := kk.out V3 b3
  go_wp2_with fail
  clear x0 x1 x2
  refine (rseen7_any V3 (HG.out V3 b3) (HS.out V3 b3) h1 h2).mono ?_
  rintro e V4 ⟨rfl, c4⟩
  have b4 := bl_call b3 c4 (Nat.le_refl _)
  obtain ⟨q1, hq1⟩ : ∃ x, (seen7 s l).1 = x := ⟨_, rfl⟩
  obtain ⟨q2, hq2⟩ : ∃ x, (seen7 s l).2 = x := ⟨_, rfl⟩
  rw [hq1, hq2]
  clear hq1 hq2
  obtain ⟨x0, x1, x2, y0, y1⟩ := kk.out V4 b4
  go_wp2_with fail
  clear x0 x1 x2 y0 y1
  refine (ksizes_any t a V4 (HG.out V4 b4) (HS.out V4 b4) hca h1 h2).mono ?_
  rintro e V5 ⟨rfl, c5⟩
  have b5 := bl_call b4 c5 (Nat.le_refl _)
  obtain ⟨W1, w2, hww⟩ : ∃ (x : Int) (y : Int), (sizesR s l t a).1 = (x, y) := ⟨_, _, rfl⟩
  obtain ⟨w3, hw3⟩ : ∃ x : Int, (sizesR s l t a).2 = x := ⟨_, rfl⟩
  rw [hww, hw3]
  obtain ⟨g5, hg5⟩ : ∃ g5, V5.heap.size = g5 := ⟨_, rfl⟩
  obtain ⟨V6, hV6⟩ : ∃ V6, V5.alloc (.cells #[.int .i64 W1, .int .i64 w2] 23) = V6 := ⟨_, rfl⟩
  have S5 : Blk V6 g5 23 #[.int .i64 W1, .int .i64 w2] := by rw [← hV6]; exact Blk.new _ _ _ hg5.symm
  have b6 : Below W.heap.size W V6 := by rw [← hV6]; exact bl_alloc b5 _ (Nat.le_refl _)
  obtain ⟨x0, x1, x2, y0, y1⟩ := kk.out V6 b6
  go_wp2_with fail
  clear x0 x1 x2 y0 y1 hV6 hg5
  refine (rsizes7_any t a V6 (HG.out V6 b6) (HS.out V6 b6) h1 h2).mono ?_
  rintro e V7 ⟨rfl, c7⟩
  have b7 := bl_call b6 c7 (Nat.le_refl _)
  rw [hww, hw3]
  obtain ⟨g7, hg7⟩ : ∃ g7, V7.heap.size = g7 := ⟨_, rfl⟩
  obtain ⟨V8, hV8⟩ : ∃ V8, V7.alloc (.cells #[.int .i64 W1, .int .i64 w2] 23) = V8 := ⟨_, rfl⟩
  have S7 : Blk V8 g7 23 #[.int .i64 W1, .int .i64 w2] := by rw [← hV8]; exact Blk.new _ _ _ hg7.symm
  have c8 : Below V7.heap.size V7 V8 := by rw [← hV8]; exact bl_alloc (Below.refl _ _) _ (Nat.le_refl _)
  have b8 : Below W.heap.size W V8 := bl_call b7 c8 (Nat.le_refl _)
  have T5 := (S5.bl c7).bl c8
  have z0 := T5.c0
  have z1 := T5.c1
  have z2 := S7.c0
  have z3 := S7.c1
  obtain ⟨x0, x1, x2, y0, y1⟩ := kk.out V8 b8
  clear hww hw3
  go_wp2_with fail
  clear z0 z1 z2 z3 hV8 hg7 x0 x1 x2 y0 y1
  refine (kshrinks_any V8 (HG.out V8 b8) (HS.out V8 b8) hca h1 h2).mono ?_
  rintro e V9 ⟨⟨D, m, kc, rfl, hD⟩, c9⟩
  have b9 := bl_call b8 c9 (Nat.le_refl _)
  obtain ⟨sL, hsL⟩ : ∃ x, (shrinksR s l).1 = x := ⟨_, rfl⟩
  obtain ⟨sE, hsE⟩ : ∃ x, (shrinksR s l).2 = x := ⟨_, rfl⟩
  rw [hsL] at hD
  rw [hsE]
  have HD := Lib.hid hD
  obtain ⟨x0, x1, x2, y0, y1⟩ := kk.out V9 b9
  clear hD
  go_wp2_with fail
  clear x0 x1 x2 y0 y1
  refine (rshrinks7_any V9 (HG.out V9 b9) (HS.out V9 b9) h1 h2).mono ?_
  rintro e V10 ⟨⟨D2, kc2, rfl, hD2⟩, c10⟩
  have b10 := bl_call b9 c10 (Nat.le_refl _)
  rw [hsL] at hD2
  rw [hsL, hsE]
  have hD1 := HD.out.keep IntR.good (Keeps.below c10)
  obtain ⟨m2, hm2⟩ : ∃ m2, sL.length = m2 := ⟨_, rfl⟩
  rw [hm2] at hD2
  rw [hm2]
  clear hsL hsE hm2
  go_wp2_with fail
  refine (ints_any V10 hD1 hD2).mono ?_
  rintro e V11 ⟨rfl, qq, rfl⟩
  rw [decide_eq_true rfl]
  clear hD1 hD2 HD
  go_wp2_with fail
  refine (awake7_any _).mono ?_
  rintro e V12 ⟨rfl, c12⟩
  have b12 := bl_call hBW (bl_call (bl_drewN b10 qq) c12 (Nat.le_refl _)) (Nat.le_refl _)
  go_wp2
  go_ret
  exact ⟨by rfl, b12⟩

end Go.Proofs.Ytnaadjhiahjlfaa
