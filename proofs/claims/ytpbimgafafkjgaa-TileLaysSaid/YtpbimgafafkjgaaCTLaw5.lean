/- Walks: the law TileLays. -/
import Derived.Test.YtpbimgafafkjgaaCTLaw2
import Derived.Test.YtpbimgafafkjgaaCTRefsP
set_option linter.unusedVariables false
set_option linter.unusedSimpArgs false
set_option linter.all false
namespace Go.Proofs.Ytpbimgafafkjgaa
open Go.RowKit

set_option maxRecDepth 100000 in
set_option maxHeartbeats 4000000 in
theorem laysLaw_any {A B C : Option Addr} {n ca m cb q cc : Nat} {h : Hall} {l : List Seen} {alo ahi most : Int} (w : World) (g : HallAt (fun _ => True) w A n B m h) (gs : Seens (fun _ => True) w C q l) (hca : n ≤ ca) (h1 : h.alo = alo) (h2 : h.ahi = ahi) (h3 : h.most = most) :
    Calls Try.prog 5 #[.agg #[.int .i64 alo, .int .i64 ahi, .int .i64 most, .slice A n ca, .slice B m cb], .slice C q cc] w fun e w' => e = .returned (.bool true) ∧ Below w.heap.size w w' := by
  obtain ⟨W, hW⟩ : ∃ W, w.alloc (.cells #[.int .i64 alo, .int .i64 ahi, .int .i64 most, .slice A n ca, .slice B m cb] 27) = W := ⟨_, rfl⟩
  have X : Blk W w.heap.size 27 #[.int .i64 alo, .int .i64 ahi, .int .i64 most, .slice A n ca, .slice B m cb] := by rw [← hW]; exact Blk.new _ _ _ rfl
  have hBW : Below w.heap.size w W := by rw [← hW]; exact bl_alloc (Below.refl _ _) _ (Nat.le_refl _)
  have HG := Lib.hid (g.keep (Keeps.below hBW))
  have HS := Lib.hid (gs.keep SeenR.good (Keeps.below hBW))
  have kk : Hid (∀ V, Below W.heap.size W V → V.cell? ⟨w.heap.size, 0, none⟩ = some (.int .i64 alo) ∧ V.cell? ⟨w.heap.size, 1, none⟩ = some (.int .i64 ahi) ∧ V.cell? ⟨w.heap.size, 2, none⟩ = some (.int .i64 most) ∧ V.cell? ⟨w.heap.size, 3, none⟩ = some (.slice A n ca) ∧ V.cell? ⟨w.heap.size, 4, none⟩ = some (.slice B m cb)) :=
    fun V hb => ⟨(X.bl hb).cell 0, (X.bl hb).cell 1, (X.bl hb).cell 2, (X.bl hb).cell 3, (X.bl hb).cell 4⟩
  clear X g gs
  obtain ⟨x0, x1, x2, x3, x4⟩ := kk.out W (Below.refl _ _)
  go_enter Try.func5, Try.ntmps5
  go_wp2_with fail
  clear hW x0 x1 x2 x3 x4
  refine (tlay_any W HG.out HS.out hca h1 h2 h3).mono ?_
  rintro e V1 ⟨b1, A1, n1, c1, rfl, hR1⟩
  obtain ⟨L, hL⟩ : ∃ L, (layR h l).1 = L := ⟨_, rfl⟩
  obtain ⟨p2, hp2⟩ : ∃ x : Int, (layR h l).2.1 = x := ⟨_, rfl⟩
  obtain ⟨p3, hp3⟩ : ∃ x : Int, (layR h l).2.2 = x := ⟨_, rfl⟩
  rw [hL] at hR1
  rw [hp2, hp3]
  obtain ⟨x0, x1, x2, x3, x4⟩ := kk.out V1 b1
  go_wp2_with fail
  clear x0 x1 x2 x3 x4
  refine (rlay_any V1 (HG.out.keep (Keeps.below b1)) (HS.out.keep SeenR.good (Keeps.below b1)) h1 h2 h3).mono ?_
  rintro e V2 ⟨c2, A2, n2, d2, rfl, hR2⟩
  rw [hL] at hR2
  rw [hp2, hp3]
  have b2 := bl_call b1 c2 (Nat.le_refl _)
  have HR1 := Lib.hid (hR1.keep (SlR.good IntR.good) (Keeps.below c2))
  have HR2 := Lib.hid hR2
  clear hR1 hR2 hL hp2 hp3 c2
  go_wp2_with fail
  refine (rows_any V2 HR1.out HR2.out).mono ?_
  rintro e V3 ⟨rfl, r3, rfl⟩
  rw [decide_eq_true rfl]
  have b3 := bl_drewN b2 r3
  generalize V2.drewN r3 = V3 at b3 ⊢
  obtain ⟨x0, x1, x2, x3, x4⟩ := kk.out V3 b3
  clear HR1 HR2 b2
  go_wp2_with fail
  clear x0 x1 x2 x3 x4
  refine (tmust_any V3 (HG.out.keep (Keeps.below b3)) (HS.out.keep SeenR.good (Keeps.below b3)) hca h1 h2 h3).mono ?_
  rintro e V4 ⟨c4, A4, n4, d4, rfl, hM4⟩
  obtain ⟨M, hM⟩ : ∃ M, (must8 h l).1 = M := ⟨_, rfl⟩
  obtain ⟨p4, hp4⟩ : ∃ x : Int, (must8 h l).2 = x := ⟨_, rfl⟩
  rw [hM] at hM4
  rw [hp4]
  have b4 := bl_call b3 c4 (Nat.le_refl _)
  obtain ⟨x0, x1, x2, x3, x4⟩ := kk.out V4 b4
  clear c4 b3
  go_wp2_with fail
  clear x0 x1 x2 x3 x4
  refine (rmust_any V4 (HG.out.keep (Keeps.below b4)) (HS.out.keep SeenR.good (Keeps.below b4)) h1 h2 h3).mono ?_
  rintro e V5 ⟨c5, A5, n5, d5, rfl, hM5⟩
  rw [hM] at hM5
  rw [hp4]
  have b5 := bl_call b4 c5 (Nat.le_refl _)
  have HM4 := Lib.hid (hM4.keep IntR.good (Keeps.below c5))
  have HM5 := Lib.hid hM5
  clear hM4 hM5 hM hp4 c5 b4
  go_wp2_with fail
  refine (ints_any V5 HM4.out HM5.out).mono ?_
  rintro e V6 ⟨rfl, r6, rfl⟩
  rw [decide_eq_true rfl]
  have b6 := bl_drewN b5 r6
  generalize V5.drewN r6 = V6 at b6 ⊢
  clear HM4 HM5 b5
  go_wp2_with fail
  refine (awake_any V6).mono ?_
  rintro e V9 ⟨rfl, c9⟩
  have b9 := bl_call hBW (bl_call b6 c9 (Nat.le_refl _)) (Nat.le_refl _)
  go_wp2
  go_ret
  exact ⟨by rfl, b9⟩

end Go.Proofs.Ytpbimgafafkjgaa
