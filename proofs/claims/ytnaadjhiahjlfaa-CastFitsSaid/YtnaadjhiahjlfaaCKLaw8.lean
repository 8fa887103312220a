/- Walks, layer 7: the law CastFits. -/
import Derived.Test.YtnaadjhiahjlfaaCKLaw4
import Derived.Test.YtnaadjhiahjlfaaCKRefL
set_option linter.unusedVariables false
set_option linter.unusedSimpArgs false
set_option linter.all false
namespace Go.Proofs.Ytnaadjhiahjlfaa
open Go.RowKit Go.Shelf

set_option maxRecDepth 100000 in
set_option maxHeartbeats 4000000 in
theorem fitsLaw_any {A C : Option Addr} {n ca q cc : Nat} {s : Shop} {l : List SeenC} {klo khi : Int} (pa pz : Int) (w : World) (g : Moulds (fun _ => True) w A n s.moulds) (gs : SeenCs (fun _ => True) w C q l) (hca : n ≤ ca) (h1 : s.klo = klo) (h2 : s.khi = khi) :
    Calls Try.prog 5 #[.agg #[.int .i64 klo, .int .i64 khi, .slice A n ca], .slice C q cc, .agg #[.int .i64 pa, .int .i64 pz]] w fun e w' => e = .returned (.bool true) ∧ Below w.heap.size w w' := by
  obtain ⟨W, hW⟩ : ∃ W, (w.alloc (.cells #[.int .i64 klo, .int .i64 khi, .slice A n ca] 46)).alloc (.cells #[.int .i64 pa, .int .i64 pz] 23) = W := ⟨_, rfl⟩
  have X : Blk W w.heap.size 46 #[.int .i64 klo, .int .i64 khi, .slice A n ca] := by rw [← hW]; exact (Blk.new _ _ _ rfl).alloc _
  have Z : Blk W (w.heap.size + 1) 23 #[.int .i64 pa, .int .i64 pz] := by rw [← hW]; exact Blk.new _ _ _ (by simp)
  have hBW : Below w.heap.size w W := by rw [← hW]; exact bl_alloc (bl_alloc (Below.refl _ _) _ (Nat.le_refl _)) _ (Nat.le_refl _)
  have HG : Hid (∀ V, Below W.heap.size W V → Moulds (fun _ => True) V A n s.moulds) := fun V hb => (g.keep MouldR.good (Keeps.below hBW)).keep MouldR.good (Keeps.below hb)
  have HS : Hid (∀ V, Below W.heap.size W V → SeenCs (fun _ => True) V C q l) := fun V hb => (gs.keep SeenCR.good (Keeps.below hBW)).keep SeenCR.good (Keeps.below hb)
  have kk : Hid (∀ V, Below W.heap.size W V → V.cell? ⟨w.heap.size, 0, none⟩ = some (.int .i64 klo) ∧ V.cell? ⟨w.heap.size, 1, none⟩ = some (.int .i64 khi) ∧ V.cell? ⟨w.heap.size, 2, none⟩ = some (.slice A n ca) ∧ V.cell? ⟨w.heap.size + 1, 0, none⟩ = some (.int .i64 pa) ∧ V.cell? ⟨w.heap.size + 1, 1, none⟩ = some (.int .i64 pz)) :=
    fun V hb => ⟨(X.bl hb).cell 0, (X.bl hb).cell 1, (X.bl hb).cell 2, (Z.bl hb).cell 0, (Z.bl hb).cell 1⟩
  clear X Z g gs
  obtain ⟨x0, x1, x2, y0, y1⟩ := kk.out W (Below.refl _ _)
  go_enter Try.func5, Try.ntmps5
  go_wp2_with fail
  clear hW x0 x1 x2 y0 y1
  refine (kFits_any pa pz W (HG.out W (Below.refl _ _)) (HS.out W (Below.refl _ _)) hca h1 h2).mono ?_
  rintro e V1 ⟨⟨D, kc, rfl, hD⟩, b1⟩
  obtain ⟨sL, hsL⟩ : ∃ x, (fitsR s l pa pz).1 = x := ⟨_, rfl⟩
  obtain ⟨sE, hsE⟩ : ∃ x, (fitsR s l pa pz).2 = x := ⟨_, rfl⟩
  obtain ⟨m2, hm2⟩ : ∃ m2, sL.length = m2 := ⟨_, rfl⟩
  rw [hsL, hm2] at hD
  rw [hsL, hsE, hm2]
  have HD := Lib.hid hD
  obtain ⟨x0, x1, x2, y0, y1⟩ := kk.out V1 b1
  clear hD
  go_wp2_with fail
  clear x0 x1 x2 y0 y1
  refine (rfits7_any pa pz V1 (HG.out V1 b1) (HS.out V1 b1) h1 h2).mono ?_
  rintro e V2 ⟨⟨D2, kc2, rfl, hD2⟩, c2⟩
  have b2 := bl_call b1 c2 (Nat.le_refl _)
  rw [hsL, hm2] at hD2
  rw [hsL, hsE, hm2]
  have hD1 := HD.out.keep PlR.good (Keeps.below c2)
  clear hsL hsE hm2
  go_wp2_with fail
  refine (same7_any V2 hD1 hD2).mono ?_
  rintro e V3 ⟨rfl, qq, rfl⟩
  rw [decide_eq_true rfl]
  clear hD1 hD2 HD
  go_wp2_with fail
  refine (awake7_any _).mono ?_
  rintro e V4 ⟨rfl, c4⟩
  have b4 := bl_call hBW (bl_call (bl_drewN b2 qq) c4 (Nat.le_refl _)) (Nat.le_refl _)
  go_wp2
  go_ret
  exact ⟨by rfl, b4⟩
end Go.Proofs.Ytnaadjhiahjlfaa
