/- From the arguments as a statement reads them: an order, and a truth with an order. -/
import Derived.Test.YtpdldmichpmgmaaGreatCKOpP
set_option linter.unusedVariables false
set_option linter.unusedSimpArgs false
set_option linter.all false
namespace Go.Proofs.YtpdldmichpmgmaaGreat
open Go.ChangeShapes Go.WideShapes Go.RowKit

theorem cellsSps : Tryz.prog.cellsOf 28 = 1 := by kernel_rfl
theorem cellsOrdered : Tryz.prog.cellsOf 44 = 3 := by kernel_rfl
theorem open_spans {H : Type} {enc : TypeId × Value → H} {W : World} {sp : Nat → Bool} {held : Bool} {fuel : Nat} {cs : List Value} {x : DataW H × List MemPlace} (h : DataW.trod enc Tryz.prog W 0 sp held fuel 28 cs = some x) : ∃ A n c xs, cs = [.slice A n c] ∧ n ≤ c ∧ Pairs (fun _ => True) W A n xs :=
  open_rows (R := PairR) Tryz.underlying28 cellsSpan (by decide) (fun n cs y h => by
    obtain ⟨a, b, rfl⟩ := open_span7 h
    exact ⟨(a, b), rfl, rfl⟩) h
theorem open_ordered7 {H : Type} {enc : TypeId × Value → H} {W : World} {sp : Nat → Bool} {held : Bool} {fuel : Nat} {cs : List Value} {x : DataW H × List MemPlace} (h : DataW.trod enc Tryz.prog W 0 sp held fuel 44 cs = some x) : ∃ A n c xs B m d ys O k e os, cs = [.slice A n c, .slice B m d, .slice O k e] ∧ Bytes (fun _ => True) W A n xs ∧ Bytes (fun _ => True) W B m ys ∧ Pairs (fun _ => True) W O k os := by
  obtain ⟨z0, z1, n2, _, hl, g0, g1⟩ := trod_struct2 Tryz.underlying44 h
  rw [cellsOrdered] at hl
  simp only [cellsPast, cellsSps] at g0 g1
  match cs, hl with
  | [c0, c1, c2], _ =>
    obtain ⟨A, n, c, xs, B, m, d, ys, hAB, hX, hY⟩ := open_past7 g0
    obtain ⟨O, k, e, os, hO, _, hZ⟩ := open_spans g1
    simp at hAB hO
    obtain ⟨rfl, rfl⟩ := hAB
    subst hO
    exact ⟨A, n, c, xs, B, m, d, ys, O, k, e, os, rfl, hX, hY, hZ⟩
end Go.Proofs.YtpdldmichpmgmaaGreat
