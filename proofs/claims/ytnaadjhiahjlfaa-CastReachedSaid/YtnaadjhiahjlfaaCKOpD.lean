/- From the arguments as a statement reads them: three bytes. -/
import Derived.Test.YtnaadjhiahjlfaaCKOpB
set_option linter.unusedVariables false
set_option linter.unusedSimpArgs false
set_option linter.all false
namespace Go.Proofs.Ytnaadjhiahjlfaa
open Go.ChangeShapes Go.WideShapes Go.RowKit

theorem cellsB3 : Try.prog.cellsOf 87 = 3 := by kernel_rfl
theorem okWide_array7 {P : Program} {w : World} {r : Reach} {base : Nat} {t e : TypeId} {n : Nat} {v : Value} (ht : P.underlying t = some (.array n e)) (h : Value.okWide P w r base t v) : ∃ cs, v = .agg cs ∧ cs.size = P.cellsOf t := by
  simp only [Value.okWide, ht] at h
  obtain ⟨cs, h1, h2, _⟩ := h
  exact ⟨cs, h1, h2⟩
set_option maxRecDepth 100000 in
theorem open_b37 {H : Type} {enc : TypeId × Value → H} {W : World} {v : Value} {d : DataW H} {p : List MemPlace} {r : Reach} {b0 base : Nat} {sp : Nat → Bool} {held : Bool} (hok : Value.okWide Try.prog W r b0 87 v) (h : DataW.Trod enc Try.prog W base sp held 87 v d p) : ∃ x0 x1 x2 : Nat, v = .agg #[.int .u8 x0, .int .u8 x1, .int .u8 x2] ∧ x0 < 256 ∧ x1 < 256 ∧ x2 < 256 := by
  obtain ⟨cs, rfl, hsz⟩ := okWide_array7 Try.underlying87 hok
  obtain ⟨f, hf⟩ := h
  obtain ⟨xs, m, _, _, hl, hxl, hi⟩ := DataW.trod_array Try.underlying87 hf
  rw [cellsB3] at hl hsz
  have h0 := hi 0 (by decide)
  have h1 := hi 1 (by decide)
  have h2 := hi 2 (by decide)
  rw [cellsU8] at h0 h1 h2
  rw [List.getElem?_eq_getElem (by omega)] at h0 h1 h2
  obtain ⟨a0, ha0, _, hw0⟩ := DataW.trod_int Try.underlying5 h0
  obtain ⟨n0, rfl, hb0⟩ := u8_of hw0
  obtain ⟨a1, ha1, _, hw1⟩ := DataW.trod_int Try.underlying5 h1
  obtain ⟨n1, rfl, hb1⟩ := u8_of hw1
  obtain ⟨a2, ha2, _, hw2⟩ := DataW.trod_int Try.underlying5 h2
  obtain ⟨n2, rfl, hb2⟩ := u8_of hw2
  refine ⟨n0, n1, n2, ?_, hb0, hb1, hb2⟩
  congr 1
  apply Array.ext'
  have hc : (Value.agg cs).cells.toList = cs.toList := rfl
  rw [hc] at ha0 ha1 ha2 hl
  obtain ⟨c0, c1, c2, hcs⟩ : ∃ c0 c1 c2, cs.toList = [c0, c1, c2] := by
    match cs.toList, hl with
    | [c0, c1, c2], _ => exact ⟨c0, c1, c2, rfl⟩
  rw [hcs] at ha0 ha1 ha2 ⊢
  simp at ha0 ha1 ha2
  rw [ha0, ha1, ha2]
end Go.Proofs.Ytnaadjhiahjlfaa
