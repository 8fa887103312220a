/- From the arguments as a statement reads them: three bytes, and five. -/
import Derived.Test.YtpbimgafafkjgaaCTOpens
import Derived.Test.YtpbimgafafkjgaaCTOuts2
set_option linter.unusedVariables false
set_option linter.unusedSimpArgs false
set_option linter.all false
namespace Go.Proofs.Ytpbimgafafkjgaa
open Go.ChangeShapes Go.WideShapes Go.RowKit

theorem cellsB3 : Try.prog.cellsOf 70 = 3 := by kernel_rfl
set_option maxRecDepth 100000 in
theorem open_b3 {H : Type} {enc : TypeId × Value → H} {W : World} {v : Value} {d : DataW H} {p : List MemPlace} {r : Reach} {b0 base : Nat} {sp : Nat → Bool} {held : Bool} (hok : Value.okWide Try.prog W r b0 70 v) (h : DataW.Trod enc Try.prog W base sp held 70 v d p) : ∃ x0 x1 x2 : Nat, v = .agg #[.int .u8 x0, .int .u8 x1, .int .u8 x2] ∧ x0 < 256 ∧ x1 < 256 ∧ x2 < 256 := by
  obtain ⟨cs, rfl, hsz⟩ := okWide_array Try.underlying70 hok
  obtain ⟨f, hf⟩ := h
  obtain ⟨xs, m, _, _, hl, hxl, hi⟩ := DataW.trod_array Try.underlying70 hf
  rw [cellsB3] at hl hsz
  have h0 := hi 0 (by decide)
  have h1 := hi 1 (by decide)
  have h2 := hi 2 (by decide)
  rw [cellsU8] at h0 h1 h2
  rw [List.getElem?_eq_getElem (by omega)] at h0 h1 h2
  obtain ⟨a0, ha0, _, hw0⟩ := DataW.trod_int Try.underlying5 h0
  obtain ⟨n0, rfl, hb0⟩ := u8_of hw0
  obtain ⟨a1, ha1, _, hw1⟩ := DataW.trod_int Try.underlying5 h1
  obtain ⟨n1, rfl, hb1⟩ := u8_of hw1
  obtain ⟨a2, ha2, _, hw2⟩ := DataW.trod_int Try.underlying5 h2
  obtain ⟨n2, rfl, hb2⟩ := u8_of hw2
  refine ⟨n0, n1, n2, ?_, hb0, hb1, hb2⟩
  congr 1
  apply Array.ext'
  have hc : (Value.agg cs).cells.toList = cs.toList := rfl
  rw [hc] at ha0 ha1 ha2 hl
  obtain ⟨c0, c1, c2, hcs⟩ : ∃ c0 c1 c2, cs.toList = [c0, c1, c2] := by
    match cs.toList, hl with
    | [c0, c1, c2], _ => exact ⟨c0, c1, c2, rfl⟩
  rw [hcs] at ha0 ha1 ha2 ⊢
  simp at ha0 ha1 ha2
  rw [ha0, ha1, ha2]

theorem cellsB5 : Try.prog.cellsOf 85 = 5 := by kernel_rfl
set_option maxRecDepth 100000 in
theorem open_b5 {H : Type} {enc : TypeId × Value → H} {W : World} {v : Value} {d : DataW H} {p : List MemPlace} {r : Reach} {b0 base : Nat} {sp : Nat → Bool} {held : Bool} (hok : Value.okWide Try.prog W r b0 85 v) (h : DataW.Trod enc Try.prog W base sp held 85 v d p) : ∃ x0 x1 x2 x3 x4 : Nat, v = .agg #[.int .u8 x0, .int .u8 x1, .int .u8 x2, .int .u8 x3, .int .u8 x4] ∧ x0 < 256 ∧ x1 < 256 ∧ x2 < 256 ∧ x3 < 256 ∧ x4 < 256 := by
  obtain ⟨cs, rfl, hsz⟩ := okWide_array Try.underlying85 hok
  obtain ⟨f, hf⟩ := h
  obtain ⟨xs, m, _, _, hl, hxl, hi⟩ := DataW.trod_array Try.underlying85 hf
  rw [cellsB5] at hl hsz
  have h0 := hi 0 (by decide)
  have h1 := hi 1 (by decide)
  have h2 := hi 2 (by decide)
  have h3 := hi 3 (by decide)
  have h4 := hi 4 (by decide)
  rw [cellsU8] at h0 h1 h2 h3 h4
  rw [List.getElem?_eq_getElem (by omega)] at h0 h1 h2 h3 h4
  obtain ⟨a0, ha0, _, hw0⟩ := DataW.trod_int Try.underlying5 h0
  obtain ⟨n0, rfl, hb0⟩ := u8_of hw0
  obtain ⟨a1, ha1, _, hw1⟩ := DataW.trod_int Try.underlying5 h1
  obtain ⟨n1, rfl, hb1⟩ := u8_of hw1
  obtain ⟨a2, ha2, _, hw2⟩ := DataW.trod_int Try.underlying5 h2
  obtain ⟨n2, rfl, hb2⟩ := u8_of hw2
  obtain ⟨a3, ha3, _, hw3⟩ := DataW.trod_int Try.underlying5 h3
  obtain ⟨n3, rfl, hb3⟩ := u8_of hw3
  obtain ⟨a4, ha4, _, hw4⟩ := DataW.trod_int Try.underlying5 h4
  obtain ⟨n4, rfl, hb4⟩ := u8_of hw4
  refine ⟨n0, n1, n2, n3, n4, ?_, hb0, hb1, hb2, hb3, hb4⟩
  congr 1
  apply Array.ext'
  have hc : (Value.agg cs).cells.toList = cs.toList := rfl
  rw [hc] at ha0 ha1 ha2 ha3 ha4 hl
  obtain ⟨c0, c1, c2, c3, c4, hcs⟩ : ∃ c0 c1 c2 c3 c4, cs.toList = [c0, c1, c2, c3, c4] := by
    match cs.toList, hl with
    | [c0, c1, c2, c3, c4], _ => exact ⟨c0, c1, c2, c3, c4, rfl⟩
  rw [hcs] at ha0 ha1 ha2 ha3 ha4 ⊢
  simp at ha0 ha1 ha2 ha3 ha4
  rw [ha0, ha1, ha2, ha3, ha4]

end Go.Proofs.Ytpbimgafafkjgaa

namespace Go.Proofs.Ytpbimgafafkjgaa
open Go.ChangeShapes Go.WideShapes Go.RowKit

theorem cellsBs : Try.prog.cellsOf 56 = 1 := by kernel_rfl
theorem cellsPast : Try.prog.cellsOf 58 = 2 := by kernel_rfl
theorem open_bytesL {H : Type} {enc : TypeId × Value → H} {W : World} {sp : Nat → Bool} {held : Bool} {fuel : Nat} {cs : List Value} {x : DataW H × List MemPlace} (h : DataW.trod enc Try.prog W 0 sp held fuel 56 cs = some x) : ∃ A n c xs, cs = [.slice A n c] ∧ n ≤ c ∧ Bytes (fun _ => True) W A n xs :=
  open_rows (R := ByteR) Try.underlying56 cellsU8 (by decide) (fun n cs y h => by
    obtain ⟨a, rfl, _, hwf⟩ := DataW.trod_int Try.underlying5 h
    obtain ⟨k, rfl, hk⟩ := u8_of hwf
    exact ⟨k, ⟨rfl, hk⟩, rfl⟩) h
theorem open_past {H : Type} {enc : TypeId × Value → H} {W : World} {sp : Nat → Bool} {held : Bool} {fuel : Nat} {cs : List Value} {x : DataW H × List MemPlace} (h : DataW.trod enc Try.prog W 0 sp held fuel 58 cs = some x) : ∃ A n c xs B m d ys, cs = [.slice A n c, .slice B m d] ∧ Bytes (fun _ => True) W A n xs ∧ Bytes (fun _ => True) W B m ys := by
  obtain ⟨z0, z1, n2, _, hl, g0, g1⟩ := trod_struct2 Try.underlying58 h
  rw [cellsPast] at hl
  simp only [cellsBs] at g0 g1
  match cs, hl with
  | [c0, c1], _ =>
    obtain ⟨A, n, c, xs, hA, _, hX⟩ := open_bytesL g0
    obtain ⟨B, m, d, ys, hB, _, hY⟩ := open_bytesL g1
    simp at hA hB
    subst hA hB
    exact ⟨A, n, c, xs, B, m, d, ys, rfl, hX, hY⟩

end Go.Proofs.Ytpbimgafafkjgaa
