/- From the arguments as a statement reads them: a row and tiles. -/
import Derived.Test.YtpbimgafafkjgaaCTOpens
set_option linter.unusedVariables false
set_option linter.unusedSimpArgs false
set_option linter.all false
namespace Go.Proofs.Ytpbimgafafkjgaa
open Go.ChangeShapes Go.WideShapes Go.RowKit

theorem cellsLaid : Try.prog.cellsOf 41 = 2 := by kernel_rfl
theorem open_laid {H : Type} {enc : TypeId × Value → H} {W : World} {sp : Nat → Bool} {held : Bool} {fuel : Nat} {cs : List Value} {x : DataW H × List MemPlace} (h : DataW.trod enc Try.prog W 0 sp held fuel 41 cs = some x) : ∃ row T k c tl, cs = [.int .i64 row, .slice T k c] ∧ Ints (fun _ => True) W T k tl := by
  obtain ⟨z0, z1, n2, _, hl, g0, g1⟩ := trod_struct2 Try.underlying41 h
  rw [cellsLaid] at hl
  simp only [cellsInt, cellsInts] at g0 g1
  match cs, hl with
  | [c0, c1], _ =>
    obtain ⟨a, ha, _, _⟩ := DataW.trod_int Try.underlying3 g0
    obtain ⟨T, k, c, tl, hT, _, hI⟩ := open_intsL g1
    simp at ha hT
    subst ha hT
    exact ⟨a, T, k, c, tl, rfl, hI⟩

end Go.Proofs.Ytpbimgafafkjgaa
