/- From the arguments as a statement reads them: a truth and what is taken in it. -/
import Derived.Test.YtpdldmichpmgmaaGreatCKOpB
set_option linter.unusedVariables false
set_option linter.unusedSimpArgs false
set_option linter.all false
namespace Go.Proofs.YtpdldmichpmgmaaGreat
open Go.ChangeShapes Go.WideShapes Go.RowKit

theorem cellsPast : Tryz.prog.cellsOf 42 = 2 := by kernel_rfl
theorem open_past7 {H : Type} {enc : TypeId × Value → H} {W : World} {sp : Nat → Bool} {held : Bool} {fuel : Nat} {cs : List Value} {x : DataW H × List MemPlace} (h : DataW.trod enc Tryz.prog W 0 sp held fuel 42 cs = some x) : ∃ A n c xs B m d ys, cs = [.slice A n c, .slice B m d] ∧ Bytes (fun _ => True) W A n xs ∧ Bytes (fun _ => True) W B m ys := by
  obtain ⟨z0, z1, n2, _, hl, g0, g1⟩ := trod_struct2 Tryz.underlying42 h
  rw [cellsPast] at hl
  simp only [cellsBs] at g0 g1
  match cs, hl with
  | [c0, c1], _ =>
    obtain ⟨A, n, c, xs, hA, _, hX⟩ := open_bytes7 g0
    obtain ⟨B, m, d, ys, hB, _, hY⟩ := open_bytes7 g1
    simp at hA hB
    subst hA hB
    exact ⟨A, n, c, xs, B, m, d, ys, rfl, hX, hY⟩
end Go.Proofs.YtpdldmichpmgmaaGreat
