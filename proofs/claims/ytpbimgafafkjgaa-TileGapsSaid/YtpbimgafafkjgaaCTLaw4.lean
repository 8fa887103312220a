/- Walks: the law TileGaps. -/
import Derived.Test.YtpbimgafafkjgaaCTLaw2
set_option linter.unusedVariables false
set_option linter.unusedSimpArgs false
set_option linter.all false
namespace Go.Proofs.Ytpbimgafafkjgaa
open Go.RowKit

set_option maxRecDepth 100000 in
set_option maxHeartbeats 4000000 in
theorem gapsLaw_any {S : Foot} {A B C T : Option Addr} {n ca m cb q cc k c : Nat} {h : Hall} {l : List Seen} {alo ahi most : Int} {tl : List Int} (row : Int) (w : World) (g : HallAt (fun _ => True) w A n B m h) (gs : Seens (fun _ => True) w C q l) (ht : Ints S w T k tl) (hca : n ≤ ca) (h1 : h.alo = alo) (h2 : h.ahi = ahi) (h3 : h.most = most) :
    Calls Try.prog 4 #[.agg #[.int .i64 alo, .int .i64 ahi, .int .i64 most, .slice A n ca, .slice B m cb], .slice C q cc, .agg #[.int .i64 row, .slice T k c]] w fun e w' => e = .returned (.bool true) ∧ Below w.heap.size w w' := by
  obtain ⟨W, hW⟩ : ∃ W, (w.alloc (.cells #[.int .i64 alo, .int .i64 ahi, .int .i64 most, .slice A n ca, .slice B m cb] 27)).alloc (.cells #[.int .i64 row, .slice T k c] 41) = W := ⟨_, rfl⟩
  have X : Blk W w.heap.size 27 #[.int .i64 alo, .int .i64 ahi, .int .i64 most, .slice A n ca, .slice B m cb] := by rw [← hW]; exact (Blk.new _ _ _ rfl).alloc _
  have Z : Blk W (w.heap.size + 1) 41 #[.int .i64 row, .slice T k c] := by rw [← hW]; exact Blk.new _ _ _ (by simp)
  have hBW : Below w.heap.size w W := by rw [← hW]; exact bl_alloc (bl_alloc (Below.refl _ _) _ (Nat.le_refl _)) _ (Nat.le_refl _)
  have HG := Lib.hid (g.keep (Keeps.below hBW))
  have HS := Lib.hid (gs.keep SeenR.good (Keeps.below hBW))
  have HT := Lib.hid (ht.keep IntR.good (Keeps.below hBW))
  have kk : Hid (∀ V, Below W.heap.size W V → V.cell? ⟨w.heap.size, 0, none⟩ = some (.int .i64 alo) ∧ V.cell? ⟨w.heap.size, 1, none⟩ = some (.int .i64 ahi) ∧ V.cell? ⟨w.heap.size, 2, none⟩ = some (.int .i64 most) ∧ V.cell? ⟨w.heap.size, 3, none⟩ = some (.slice A n ca) ∧ V.cell? ⟨w.heap.size, 4, none⟩ = some (.slice B m cb) ∧ V.cell? ⟨w.heap.size + 1, 0, none⟩ = some (.int .i64 row) ∧ V.cell? ⟨w.heap.size + 1, 1, none⟩ = some (.slice T k c)) :=
    fun V hb => ⟨(X.bl hb).cell 0, (X.bl hb).cell 1, (X.bl hb).cell 2, (X.bl hb).cell 3, (X.bl hb).cell 4, (Z.bl hb).cell 0, (Z.bl hb).cell 1⟩
  clear X Z g gs ht
  obtain ⟨x0, x1, x2, x3, x4, y0, y1⟩ := kk.out W (Below.refl _ _)
  go_enter Try.func4, Try.ntmps4
  go_wp2_with fail
  clear hW x0 x1 x2 x3 x4 y0 y1
  refine (tgap_any row W HG.out HS.out HT.out hca h1 h2 h3).mono ?_
  rintro e V5 ⟨rfl, b5⟩
  obtain ⟨r1, r2, hrr⟩ : ∃ (x : Int) (y : Int), (gapR h l row tl).1 = (x, y) := ⟨_, _, rfl⟩
  obtain ⟨r3, hr3⟩ : ∃ x : Int, (gapR h l row tl).2 = x := ⟨_, rfl⟩
  rw [hrr, hr3]
  obtain ⟨g5, hg5⟩ : ∃ g5, V5.heap.size = g5 := ⟨_, rfl⟩
  obtain ⟨V6, hV6⟩ : ∃ V6, V5.alloc (.cells #[.int .i64 r1, .int .i64 r2] 23) = V6 := ⟨_, rfl⟩
  have S5 : Blk V6 g5 23 #[.int .i64 r1, .int .i64 r2] := by rw [← hV6]; exact Blk.new _ _ _ hg5.symm
  have b6 : Below W.heap.size W V6 := by rw [← hV6]; exact bl_alloc b5 _ (Nat.le_refl _)
  obtain ⟨x0, x1, x2, x3, x4, y0, y1⟩ := kk.out V6 b6
  go_wp2_with fail
  clear x0 x1 x2 x3 x4 y0 y1
  clear hV6 hg5
  refine (rgap_any row V6 (HG.out.keep (Keeps.below b6)) (HS.out.keep SeenR.good (Keeps.below b6)) (HT.out.keep IntR.good (Keeps.below b6)) h1 h2 h3).mono ?_
  rintro e V7 ⟨rfl, c7⟩
  have b7 := bl_call b6 c7 (Nat.le_refl _)
  rw [hrr, hr3]
  obtain ⟨g7, hg7⟩ : ∃ g7, V7.heap.size = g7 := ⟨_, rfl⟩
  obtain ⟨V8, hV8⟩ : ∃ V8, V7.alloc (.cells #[.int .i64 r1, .int .i64 r2] 23) = V8 := ⟨_, rfl⟩
  have S7 : Blk V8 g7 23 #[.int .i64 r1, .int .i64 r2] := by rw [← hV8]; exact Blk.new _ _ _ hg7.symm
  have b8 : Below W.heap.size W V8 := by rw [← hV8]; exact bl_alloc b7 _ (Nat.le_refl _)
  have c8 : Below V7.heap.size V7 V8 := by rw [← hV8]; exact bl_alloc (Below.refl _ _) _ (Nat.le_refl _)
  have T5 := (S5.bl c7).bl c8
  have z0 := T5.c0
  have z1 := T5.c1
  have z2 := S7.c0
  have z3 := S7.c1
  obtain ⟨x0, x1, x2, x3, x4, y0, y1⟩ := kk.out V8 b8
  go_wp2_with fail
  clear x0 x1 x2 x3 x4 y0 y1
  clear z0 z1 z2 z3 hV8 hg7 S5 S7 T5 c7 c8
  refine (twhy_any row V8 (HG.out.keep (Keeps.below b8)) (HS.out.keep SeenR.good (Keeps.below b8)) (HT.out.keep IntR.good (Keeps.below b8)) hca h1 h2 h3).mono ?_
  rintro e V9 ⟨rfl, c9⟩
  have b9 := bl_call b8 c9 (Nat.le_refl _)
  obtain ⟨p1, hp1⟩ : ∃ x : Int, (whyR h l row tl).1 = x := ⟨_, rfl⟩
  obtain ⟨p2, hp2⟩ : ∃ x : Int, (whyR h l row tl).2.1 = x := ⟨_, rfl⟩
  obtain ⟨p3, hp3⟩ : ∃ x : Int, (whyR h l row tl).2.2 = x := ⟨_, rfl⟩
  rw [hp1, hp2, hp3]
  obtain ⟨x0, x1, x2, x3, x4, y0, y1⟩ := kk.out V9 b9
  go_wp2_with fail
  clear x0 x1 x2 x3 x4 y0 y1
  refine (rwhy_any row V9 (HG.out.keep (Keeps.below b9)) (HS.out.keep SeenR.good (Keeps.below b9)) (HT.out.keep IntR.good (Keeps.below b9)) h1 h2 h3).mono ?_
  rintro e V10 ⟨rfl, c10⟩
  have b10 := bl_call b9 c10 (Nat.le_refl _)
  rw [hp1, hp2, hp3]
  obtain ⟨x0, x1, x2, x3, x4, y0, y1⟩ := kk.out V10 b10
  go_wp2_with fail
  clear x0 x1 x2 x3 x4 y0 y1
  refine (tairs_any row V10 (HG.out.keep (Keeps.below b10)) (HS.out.keep SeenR.good (Keeps.below b10)) (HT.out.keep IntR.good (Keeps.below b10)) hca h1 h2 h3).mono ?_
  rintro e V11 ⟨rfl, c11⟩
  have b11 := bl_call b10 c11 (Nat.le_refl _)
  obtain ⟨s1, s2, hss⟩ : ∃ (x : Int) (y : Int), (airsR h l row tl).1 = (x, y) := ⟨_, _, rfl⟩
  obtain ⟨s3, hs3⟩ : ∃ x : Int, (airsR h l row tl).2 = x := ⟨_, rfl⟩
  rw [hss, hs3]
  obtain ⟨g11, hg11⟩ : ∃ g11, V11.heap.size = g11 := ⟨_, rfl⟩
  obtain ⟨V12, hV12⟩ : ∃ V12, V11.alloc (.cells #[.int .i64 s1, .int .i64 s2] 23) = V12 := ⟨_, rfl⟩
  have S11 : Blk V12 g11 23 #[.int .i64 s1, .int .i64 s2] := by rw [← hV12]; exact Blk.new _ _ _ hg11.symm
  have b12 : Below W.heap.size W V12 := by rw [← hV12]; exact bl_alloc b11 _ (Nat.le_refl _)
  obtain ⟨x0, x1, x2, x3, x4, y0, y1⟩ := kk.out V12 b12
  go_wp2_with fail
  clear x0 x1 x2 x3 x4 y0 y1
  clear hV12 hg11
  refine (rairs_any row V12 (HG.out.keep (Keeps.below b12)) (HS.out.keep SeenR.good (Keeps.below b12)) (HT.out.keep IntR.good (Keeps.below b12)) h1 h2 h3).mono ?_
  rintro e V13 ⟨rfl, c13⟩
  have b13 := bl_call b12 c13 (Nat.le_refl _)
  rw [hss, hs3]
  obtain ⟨g13, hg13⟩ : ∃ g13, V13.heap.size = g13 := ⟨_, rfl⟩
  obtain ⟨V14, hV14⟩ : ∃ V14, V13.alloc (.cells #[.int .i64 s1, .int .i64 s2] 23) = V14 := ⟨_, rfl⟩
  have S13 : Blk V14 g13 23 #[.int .i64 s1, .int .i64 s2] := by rw [← hV14]; exact Blk.new _ _ _ hg13.symm
  have b14 : Below W.heap.size W V14 := by rw [← hV14]; exact bl_alloc b13 _ (Nat.le_refl _)
  have c14 : Below V13.heap.size V13 V14 := by rw [← hV14]; exact bl_alloc (Below.refl _ _) _ (Nat.le_refl _)
  have T11 := (S11.bl c13).bl c14
  have z0 := T11.c0
  have z1 := T11.c1
  have z2 := S13.c0
  have z3 := S13.c1
  go_wp2_with fail
  clear z0 z1 z2 z3 hV14 hg13
  refine (awake_any V14).mono ?_
  rintro e V15 ⟨rfl, c15⟩
  have b15 := bl_call hBW (bl_call b14 c15 (Nat.le_refl _)) (Nat.le_refl _)
  go_wp2
  go_ret
  exact ⟨by rfl, b15⟩

end Go.Proofs.Ytpbimgafafkjgaa
