/- Walks: the law TileWidths. -/
import Derived.Test.YtpbimgafafkjgaaCTLaw2
set_option linter.unusedVariables false
set_option linter.unusedSimpArgs false
set_option linter.all false
namespace Go.Proofs.Ytpbimgafafkjgaa
open Go.RowKit

set_option maxRecDepth 100000 in
set_option maxHeartbeats 4000000 in
theorem widthsLaw_any {A B C : Option Addr} {n ca m cb q cc : Nat} {h : Hall} {l : List Seen} {alo ahi most : Int} (t a : Int) (w : World) (g : HallAt (fun _ => True) w A n B m h) (gs : Seens (fun _ => True) w C q l) (hca : n ≤ ca) (h1 : h.alo = alo) (h2 : h.ahi = ahi) (h3 : h.most = most) :
    Calls Try.prog 3 #[.agg #[.int .i64 alo, .int .i64 ahi, .int .i64 most, .slice A n ca, .slice B m cb], .slice C q cc, .agg #[.int .i64 t, .int .i64 a]] w fun e w' => e = .returned (.bool true) ∧ Below w.heap.size w w' := by
  obtain ⟨W, hW⟩ : ∃ W, (w.alloc (.cells #[.int .i64 alo, .int .i64 ahi, .int .i64 most, .slice A n ca, .slice B m cb] 27)).alloc (.cells #[.int .i64 t, .int .i64 a] 29) = W := ⟨_, rfl⟩
  have X : Blk W w.heap.size 27 #[.int .i64 alo, .int .i64 ahi, .int .i64 most, .slice A n ca, .slice B m cb] := by rw [← hW]; exact (Blk.new _ _ _ rfl).alloc _
  have Z : Blk W (w.heap.size + 1) 29 #[.int .i64 t, .int .i64 a] := by rw [← hW]; exact Blk.new _ _ _ (by simp)
  have hBW : Below w.heap.size w W := by rw [← hW]; exact bl_alloc (bl_alloc (Below.refl _ _) _ (Nat.le_refl _)) _ (Nat.le_refl _)
  have HG := Lib.hid (g.keep (Keeps.below hBW))
  have HS := Lib.hid (gs.keep SeenR.good (Keeps.below hBW))
  have kk : Hid (∀ V, Below W.heap.size W V → V.cell? ⟨w.heap.size, 0, none⟩ = some (.int .i64 alo) ∧ V.cell? ⟨w.heap.size, 1, none⟩ = some (.int .i64 ahi) ∧ V.cell? ⟨w.heap.size, 2, none⟩ = some (.int .i64 most) ∧ V.cell? ⟨w.heap.size, 3, none⟩ = some (.slice A n ca) ∧ V.cell? ⟨w.heap.size, 4, none⟩ = some (.slice B m cb) ∧ V.cell? ⟨w.heap.size + 1, 0, none⟩ = some (.int .i64 t) ∧ V.cell? ⟨w.heap.size + 1, 1, none⟩ = some (.int .i64 a)) :=
    fun V hb => ⟨(X.bl hb).cell 0, (X.bl hb).cell 1, (X.bl hb).cell 2, (X.bl hb).cell 3, (X.bl hb).cell 4, (Z.bl hb).cell 0, (Z.bl hb).cell 1⟩
  clear X Z g gs
  obtain ⟨x0, x1, x2, x3, x4, _, _⟩ := kk.out W (Below.refl _ _)
  go_enter Try.func3, Try.ntmps3
  go_wp2_with fail
  clear hW x0 x1 x2 x3 x4
  refine (tcheck_any W HG.out hca h1 h2 h3).mono ?_
  rintro e V1 ⟨rfl, b1⟩
  obtain ⟨x0, x1, x2, x3, x4, _, _⟩ := kk.out V1 b1
  go_wp2_with fail
  clear x0 x1 x2 x3 x4
  refine (rcheck_any V1 (HG.out.keep (Keeps.below b1)) h1 h2 h3).mono ?_
  rintro e V2 ⟨rfl, c2⟩
  have b2 := bl_call b1 c2 (Nat.le_refl _)
  generalize (check8 h).1 = p1
  generalize (check8 h).2.1 = p2
  generalize (check8 h).2.2 = p3
  obtain ⟨x0, x1, x2, x3, x4, _, _⟩ := kk.out V2 b2
  go_wp2_with fail
  clear x0 x1 x2 x3 x4
  refine (tseen_any V2 (HG.out.keep (Keeps.below b2)) (HS.out.keep SeenR.good (Keeps.below b2)) hca h1 h2 h3).mono ?_
  rintro e V3 ⟨rfl, c3⟩
  have b3 := bl_call b2 c3 (Nat.le_refl _)
  obtain ⟨x0, x1, x2, x3, x4, _, _⟩ := kk.out V3 b3
  go_wp2_with fail
  clear x0 x1 x2 x3 x4
  refine (rseen_any V3 (HG.out.keep (Keeps.below b3)) (HS.out.keep SeenR.good (Keeps.below b3)) h1 h2 h3).mono ?_
  rintro e V4 ⟨rfl, c4⟩
  have b4 := bl_call b3 c4 (Nat.le_refl _)
  generalize (seen8 h l).1 = q1
  generalize (seen8 h l).2 = q2
  obtain ⟨x0, x1, x2, x3, x4, y0, y1⟩ := kk.out V4 b4
  go_wp2_with fail
  clear x0 x1 x2 x3 x4 y0 y1
  refine (twidth_any t a V4 (HG.out.keep (Keeps.below b4)) (HS.out.keep SeenR.good (Keeps.below b4)) hca h1 h2 h3).mono ?_
  rintro e V5 ⟨rfl, c5⟩
  have b5 := bl_call b4 c5 (Nat.le_refl _)
  obtain ⟨W1, w2, hww⟩ : ∃ (x : Int) (y : Int), (width8 h l t a).1 = (x, y) := ⟨_, _, rfl⟩
  obtain ⟨w3, hw3⟩ : ∃ x : Int, (width8 h l t a).2 = x := ⟨_, rfl⟩
  rw [hww, hw3]
  obtain ⟨g5, hg5⟩ : ∃ g5, V5.heap.size = g5 := ⟨_, rfl⟩
  obtain ⟨V6, hV6⟩ : ∃ V6, V5.alloc (.cells #[.int .i64 W1, .int .i64 w2] 23) = V6 := ⟨_, rfl⟩
  have S5 : Blk V6 g5 23 #[.int .i64 W1, .int .i64 w2] := by rw [← hV6]; exact Blk.new _ _ _ hg5.symm
  have b6 : Below W.heap.size W V6 := by rw [← hV6]; exact bl_alloc b5 _ (Nat.le_refl _)
  obtain ⟨x0, x1, x2, x3, x4, y0, y1⟩ := kk.out V6 b6
  go_wp2_with fail
  clear x0 x1 x2 x3 x4 y0 y1 hV6 hg5
  refine (rwidth_any t a V6 (HG.out.keep (Keeps.below b6)) (HS.out.keep SeenR.good (Keeps.below b6)) h1 h2 h3).mono ?_
  rintro e V7 ⟨rfl, c7⟩
  have b7 := bl_call b6 c7 (Nat.le_refl _)
  rw [hww, hw3]
  obtain ⟨g7, hg7⟩ : ∃ g7, V7.heap.size = g7 := ⟨_, rfl⟩
  obtain ⟨V8, hV8⟩ : ∃ V8, V7.alloc (.cells #[.int .i64 W1, .int .i64 w2] 23) = V8 := ⟨_, rfl⟩
  have S7 : Blk V8 g7 23 #[.int .i64 W1, .int .i64 w2] := by rw [← hV8]; exact Blk.new _ _ _ hg7.symm
  have c8 : Below V7.heap.size V7 V8 := by rw [← hV8]; exact bl_alloc (Below.refl _ _) _ (Nat.le_refl _)
  have b8 : Below W.heap.size W V8 := bl_call b7 c8 (Nat.le_refl _)
  have T5 := (S5.bl c7).bl c8
  have z0 := T5.c0
  have z1 := T5.c1
  have z2 := S7.c0
  have z3 := S7.c1
  go_wp2_with fail
  clear z0 z1 z2 z3 hV8 hg7
  refine (awake_any V8).mono ?_
  rintro e V9 ⟨rfl, c9⟩
  have b9 := bl_call hBW (bl_call b8 c9 (Nat.le_refl _)) (Nat.le_refl _)
  go_wp2
  go_ret
  exact ⟨by rfl, b9⟩

end Go.Proofs.Ytpbimgafafkjgaa
