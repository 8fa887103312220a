/- From the arguments as a statement reads them: two bytes. -/
import Derived.Test.YtinekpalobaeoaaCKOpB
set_option linter.unusedVariables false
set_option linter.unusedSimpArgs false
set_option linter.all false
namespace Go.Proofs.Ytinekpalobaeoaa
open Go.ChangeShapes Go.WideShapes Go.RowKit

theorem cellsB2 : Try.prog.cellsOf 33 = 2 := by kernel_rfl
theorem okWide_array2 {P : Program} {w : World} {r : Reach} {base : Nat} {t e : TypeId} {n : Nat} {v : Value} (ht : P.underlying t = some (.array n e)) (h : Value.okWide P w r base t v) : ∃ cs, v = .agg cs ∧ cs.size = P.cellsOf t := by
  simp only [Value.okWide, ht] at h
  obtain ⟨cs, h1, h2, _⟩ := h
  exact ⟨cs, h1, h2⟩
set_option maxRecDepth 100000 in
theorem open_b27 {H : Type} {enc : TypeId × Value → H} {W : World} {v : Value} {d : DataW H} {p : List MemPlace} {r : Reach} {b0 base : Nat} {sp : Nat → Bool} {held : Bool} (hok : Value.okWide Try.prog W r b0 33 v) (h : DataW.Trod enc Try.prog W base sp held 33 v d p) : ∃ x0 x1 : Nat, v = .agg #[.int .u8 x0, .int .u8 x1] ∧ x0 < 256 ∧ x1 < 256 := by
  obtain ⟨cs, rfl, hsz⟩ := okWide_array2 Try.underlying33 hok
  obtain ⟨f, hf⟩ := h
  obtain ⟨xs, m, _, _, hl, hxl, hi⟩ := DataW.trod_array Try.underlying33 hf
  rw [cellsB2] at hl hsz
  have h0 := hi 0 (by decide)
  have h1 := hi 1 (by decide)
  rw [cellsU8] at h0 h1
  rw [List.getElem?_eq_getElem (by omega)] at h0 h1
  obtain ⟨a0, ha0, _, hw0⟩ := DataW.trod_int Try.underlying5 h0
  obtain ⟨n0, rfl, hb0⟩ := u8_of hw0
  obtain ⟨a1, ha1, _, hw1⟩ := DataW.trod_int Try.underlying5 h1
  obtain ⟨n1, rfl, hb1⟩ := u8_of hw1
  refine ⟨n0, n1, ?_, hb0, hb1⟩
  congr 1
  apply Array.ext'
  have hc : (Value.agg cs).cells.toList = cs.toList := rfl
  rw [hc] at ha0 ha1 hl
  obtain ⟨c0, c1, hcs⟩ : ∃ c0 c1, cs.toList = [c0, c1] := by
    match cs.toList, hl with
    | [c0, c1], _ => exact ⟨c0, c1, rfl⟩
  rw [hcs] at ha0 ha1 ⊢
  simp at ha0 ha1
  rw [ha0, ha1]
end Go.Proofs.Ytinekpalobaeoaa
