/- From the arguments as a statement reads them: a piece, and by how much it is wider. -/
import Derived.Test.YtinekpalobaeoaaCKOpB
set_option linter.unusedVariables false
set_option linter.unusedSimpArgs false
set_option linter.all false
namespace Go.Proofs.Ytinekpalobaeoaa
open Go.ChangeShapes Go.WideShapes Go.RowKit

theorem cellsB3f : Try.prog.cellsOf 59 = 3 := by kernel_rfl
theorem cellsWider : Try.prog.cellsOf 61 = 5 := by kernel_rfl
set_option maxRecDepth 100000 in
theorem open_bytes3 {H : Type} {enc : TypeId × Value → H} {W : World} {sp : Nat → Bool} {held : Bool} {fuel : Nat} {c0 c1 c2 : Value} {x : DataW H × List MemPlace} (h : DataW.trod enc Try.prog W 0 sp held fuel 59 [c0, c1, c2] = some x) : ∃ x0 x1 x2 : Nat, c0 = .int .u8 x0 ∧ c1 = .int .u8 x1 ∧ c2 = .int .u8 x2 ∧ x0 < 256 ∧ x1 < 256 ∧ x2 < 256 := by
  obtain ⟨xs, m, _, _, hl, hxl, hi⟩ := DataW.trod_array Try.underlying59 h
  have h0 := hi 0 (by decide)
  have h1 := hi 1 (by decide)
  have h2 := hi 2 (by decide)
  rw [cellsU8] at h0 h1 h2
  rw [List.getElem?_eq_getElem (by omega)] at h0 h1 h2
  obtain ⟨a0, ha0, _, hw0⟩ := DataW.trod_int Try.underlying5 h0
  obtain ⟨n0, rfl, hb0⟩ := u8_of hw0
  obtain ⟨a1, ha1, _, hw1⟩ := DataW.trod_int Try.underlying5 h1
  obtain ⟨n1, rfl, hb1⟩ := u8_of hw1
  obtain ⟨a2, ha2, _, hw2⟩ := DataW.trod_int Try.underlying5 h2
  obtain ⟨n2, rfl, hb2⟩ := u8_of hw2
  simp at ha0 ha1 ha2
  exact ⟨n0, n1, n2, ha0, ha1, ha2, hb0, hb1, hb2⟩
theorem open_wider7 {H : Type} {enc : TypeId × Value → H} {W : World} {sp : Nat → Bool} {held : Bool} {fuel : Nat} {cs : List Value} {x : DataW H × List MemPlace} (h : DataW.trod enc Try.prog W 0 sp held fuel 61 cs = some x) : ∃ (a b : Int) (x0 x1 x2 : Nat), cs = [.int .i64 a, .int .i64 b, .int .u8 x0, .int .u8 x1, .int .u8 x2] ∧ x0 < 256 ∧ x1 < 256 ∧ x2 < 256 := by
  obtain ⟨z0, z1, n2, _, hl, g0, g1⟩ := trod_struct2 Try.underlying61 h
  rw [cellsWider] at hl
  simp only [cellsSpan, cellsB3f] at g0 g1
  match cs, hl with
  | [c0, c1, c2, c3, c4], _ =>
    obtain ⟨a, b, hab⟩ := open_span7 g0
    obtain ⟨x0, x1, x2, e0, e1, e2, h0, h1, h2⟩ := open_bytes3 (c0 := c2) (c1 := c3) (c2 := c4) (by simpa using g1)
    simp at hab
    obtain ⟨rfl, rfl⟩ := hab
    subst e0 e1 e2
    exact ⟨a, b, x0, x1, x2, rfl, h0, h1, h2⟩
end Go.Proofs.Ytinekpalobaeoaa
