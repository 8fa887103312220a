/- Walks, layer 7: the laws' valid. -/
import Derived.Test.YtpdldmichpmgmaaGreatCKRefs1
set_option linter.unusedVariables false
set_option linter.unusedSimpArgs false
set_option linter.all false
namespace Go.Proofs.YtpdldmichpmgmaaGreat
open Go.RowKit Go.Shelf

set_option maxHeartbeats 1000000 in
theorem valid7_any {A : Option Addr} {n ca : Nat} {s : Shop} {klo khi : Int} (w : World) (g : Moulds (fun _ => True) w A n s.moulds) (h1 : s.klo = klo) (h2 : s.khi = khi) :
    Calls Tryz.prog 16 #[.agg #[.int .i64 klo, .int .i64 khi, .slice A n ca]] w fun e w' => e = .returned (.bool (err7 s == 0)) ∧ Below w.heap.size w w' := by
  obtain ⟨W, hW⟩ : ∃ W, w.alloc (.cells #[.int .i64 klo, .int .i64 khi, .slice A n ca] 26) = W := ⟨_, rfl⟩
  have hBW : Below w.heap.size w W := by rw [← hW]; exact bl_alloc (Below.refl _ _) _ (Nat.le_refl _)
  have hc : Moulds (fun _ => True) W A n s.moulds := g.keep MouldR.good (Keeps.below hBW)
  have HW := Lib.hid hW
  clear hW g
  go_enter Tryz.func16, Tryz.ntmps16
  go_wp2_with fail
  rw [HW.out]
  refine (rcheck7_any W hc h1 h2).mono ?_
  rintro e W1 ⟨rfl, b1⟩
  have B1 := bl_call hBW b1 (Nat.le_refl _)
  obtain ⟨e0, he0⟩ : ∃ e0, (check7 s).2.2 = e0 := ⟨_, rfl⟩
  have HE : Hid ((err7 s == 0) = (e0 == 0)) := by rw [Hid, err7, he0]
  rw [he0]
  clear he0 b1 hc
  go_wp2_with fail
  go_ret
  exact ⟨by rw [HE.out]; rfl, B1⟩
end Go.Proofs.YtpdldmichpmgmaaGreat
