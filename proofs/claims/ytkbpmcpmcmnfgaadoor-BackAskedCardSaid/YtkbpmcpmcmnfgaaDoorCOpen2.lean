/- From the arguments as a statement reads them: a pair of numbers. -/
import Derived.Test.YtkbpmcpmcmnfgaaDoorCLaw1
import Derived.Test.YtkbpmcpmcmnfgaaDoorCOpen
set_option linter.unusedVariables false
set_option linter.unusedSimpArgs false
set_option linter.all false
namespace Go.Proofs.YtkbpmcpmcmnfgaaDoor
open Go.ChangeShapes Go.WideShapes Go.RowKit

theorem cellsPair : Tryd.prog.cellsOf 40 = 2 := by kernel_rfl
theorem okWide_array {P : Program} {w : World} {r : Reach} {base : Nat} {t e : TypeId} {n : Nat} {v : Value} (ht : P.underlying t = some (.array n e)) (h : Value.okWide P w r base t v) : ∃ cs, v = .agg cs ∧ cs.size = P.cellsOf t := by
  simp only [Value.okWide, ht] at h
  obtain ⟨cs, h1, h2, _⟩ := h
  exact ⟨cs, h1, h2⟩
set_option maxRecDepth 100000 in
theorem open_pair {H : Type} {enc : TypeId × Value → H} {W : World} {v : Value} {d : DataW H} {p : List MemPlace} {r : Reach} {b0 base : Nat} {sp : Nat → Bool} {held : Bool} (hok : Value.okWide Tryd.prog W r b0 40 v) (h : DataW.Trod enc Tryd.prog W base sp held 40 v d p) : ∃ x0 x1, v = .agg #[.int .i64 x0, .int .i64 x1] := by
  obtain ⟨cs, rfl, hsz⟩ := okWide_array Tryd.underlying40 hok
  obtain ⟨f, hf⟩ := h
  obtain ⟨xs, m, _, _, hl, hxl, hi⟩ := DataW.trod_array Tryd.underlying40 hf
  rw [cellsPair] at hl hsz
  have h0 := hi 0 (by decide)
  have h1 := hi 1 (by decide)
  rw [cellsInt] at h0 h1
  rw [List.getElem?_eq_getElem (by omega)] at h0 h1
  obtain ⟨a, ha, _, _⟩ := DataW.trod_int Tryd.underlying3 h0
  obtain ⟨b, hb, _, _⟩ := DataW.trod_int Tryd.underlying3 h1
  refine ⟨a, b, ?_⟩
  congr 1
  apply Array.ext'
  have hc : (Value.agg cs).cells.toList = cs.toList := rfl
  rw [hc] at ha hb hl
  obtain ⟨c0, c1, hcs⟩ : ∃ c0 c1, cs.toList = [c0, c1] := by
    match cs.toList, hl with
    | [c0, c1], _ => exact ⟨c0, c1, rfl⟩
  rw [hcs] at ha hb ⊢
  simp at ha hb
  rw [ha, hb]

end Go.Proofs.YtkbpmcpmcmnfgaaDoor

namespace Go.Proofs.YtkbpmcpmcmnfgaaDoor
open Go.ChangeShapes Go.WideShapes Go.RowKit

theorem wf_u8 {n : Int} (h : (Lit.int .u8 n).wf = true) : 0 ≤ n ∧ n < 256 := by
  simp [Lit.wf, IntKind.min, IntKind.max, IntKind.signed, IntKind.bits] at h
  omega
theorem wf_u16 {n : Int} (h : (Lit.int .u16 n).wf = true) : 0 ≤ n ∧ n < 65536 := by
  simp [Lit.wf, IntKind.min, IntKind.max, IntKind.signed, IntKind.bits] at h
  omega
theorem cellsU8 : Tryd.prog.cellsOf 5 = 1 := by kernel_rfl
section
variable {H : Type} {enc : TypeId × Value → H} {W : World} {v : Value} {d : DataW H} {p : List MemPlace} {r : Reach} {b0 : Nat} {sp : Nat → Bool} {held : Bool}
set_option maxRecDepth 100000 in
theorem open_u8 (hok : Value.okWide Tryd.prog W r b0 5 v) (h : DataW.Trod enc Tryd.prog W 0 sp held 5 v d p) : ∃ x, v = .int .u8 x ∧ (0 ≤ x ∧ x < 256) := by
  obtain ⟨x, rfl⟩ := okWide_int Tryd.underlying5 hok
  obtain ⟨f, hf⟩ := h
  obtain ⟨n, hn, _, hw⟩ := DataW.trod_int Tryd.underlying5 hf
  have hn : x = n := by simpa [Value.cells] using hn
  subst hn
  exact ⟨x, rfl, wf_u8 hw⟩
set_option maxRecDepth 100000 in
theorem open_u16 (hok : Value.okWide Tryd.prog W r b0 73 v) (h : DataW.Trod enc Tryd.prog W 0 sp held 73 v d p) : ∃ x, v = .int .u16 x ∧ (0 ≤ x ∧ x < 65536) := by
  obtain ⟨x, rfl⟩ := okWide_int Tryd.underlying73 hok
  obtain ⟨f, hf⟩ := h
  obtain ⟨n, hn, _, hw⟩ := DataW.trod_int Tryd.underlying73 hf
  have hn : x = n := by simpa [Value.cells] using hn
  subst hn
  exact ⟨x, rfl, wf_u16 hw⟩
set_option maxRecDepth 100000 in
theorem open_bytes (hok : Value.okWide Tryd.prog W r b0 51 v) (h : DataW.Trod enc Tryd.prog W 0 sp held 51 v d p) : ∃ A n c xs, v = .slice A n c ∧ Bytes (fun _ => True) W A n xs := by
  obtain ⟨a, n, c, rfl⟩ := okWide_slice Tryd.underlying51 hok
  obtain ⟨f, hf⟩ := h
  obtain ⟨A, n', c', xs, hcs, _, hS⟩ := open_rows (R := U8R) Tryd.underlying51 cellsU8 (by decide) (fun n cs y h => by
    obtain ⟨a, rfl, _, hw⟩ := DataW.trod_int Tryd.underlying5 h
    exact ⟨a, ⟨rfl, wf_u8 hw⟩, rfl⟩) hf
  have hcs : a = A ∧ n = n' ∧ c = c' := by simpa [Value.cells] using hcs
  obtain ⟨rfl, rfl, rfl⟩ := hcs
  exact ⟨_, _, _, xs, rfl, hS⟩
set_option maxRecDepth 100000 in
theorem open_u8x2 (hok : Value.okWide Tryd.prog W r b0 63 v) (h : DataW.Trod enc Tryd.prog W 0 sp held 63 v d p) : ∃ x0 x1, v = .agg #[.int .u8 x0, .int .u8 x1] ∧ (0 ≤ x0 ∧ x0 < 256) ∧ (0 ≤ x1 ∧ x1 < 256) := by
  obtain ⟨cs, rfl, hsz⟩ := okWide_array Tryd.underlying63 hok
  obtain ⟨f, hf⟩ := h
  obtain ⟨xs, m, _, _, hl, hxl, hi⟩ := DataW.trod_array Tryd.underlying63 hf
  have h2 : Tryd.prog.cellsOf 63 = 2 := by kernel_rfl
  rw [h2] at hl hsz
  have h0 := hi 0 (by decide)
  have h1 := hi 1 (by decide)
  rw [cellsU8] at h0 h1
  rw [List.getElem?_eq_getElem (by omega)] at h0 h1
  obtain ⟨a, ha, _, wa⟩ := DataW.trod_int Tryd.underlying5 h0
  obtain ⟨b, hb, _, wb⟩ := DataW.trod_int Tryd.underlying5 h1
  refine ⟨a, b, ?_, wf_u8 wa, wf_u8 wb⟩
  congr 1
  apply Array.ext'
  have hc : (Value.agg cs).cells.toList = cs.toList := rfl
  rw [hc] at ha hb hl
  obtain ⟨c0, c1, hcs⟩ : ∃ c0 c1, cs.toList = [c0, c1] := by
    match cs.toList, hl with
    | [c0, c1], _ => exact ⟨c0, c1, rfl⟩
  rw [hcs] at ha hb ⊢
  simp at ha hb
  rw [ha, hb]
set_option maxRecDepth 100000 in
theorem open_bytes2 (hok : Value.okWide Tryd.prog W r b0 71 v) (h : DataW.Trod enc Tryd.prog W 0 sp held 71 v d p) : ∃ A n c xs B m e ys, v = .agg #[.slice A n c, .slice B m e] ∧ Bytes (fun _ => True) W A n xs ∧ Bytes (fun _ => True) W B m ys := by
  obtain ⟨cs, rfl, hsz⟩ := okWide_array Tryd.underlying71 hok
  obtain ⟨f, hf⟩ := h
  obtain ⟨xs, m, _, _, hl, hxl, hi⟩ := DataW.trod_array Tryd.underlying71 hf
  have h2 : Tryd.prog.cellsOf 71 = 2 := by kernel_rfl
  have h3 : Tryd.prog.cellsOf 51 = 1 := by kernel_rfl
  rw [h2] at hl hsz
  have h0 := hi 0 (by decide)
  have h1 := hi 1 (by decide)
  rw [h3] at h0 h1
  rw [List.getElem?_eq_getElem (by omega)] at h0 h1
  have hrow : ∀ (n : Nat) (cs : List Value) (y : DataW H × List MemPlace), DataW.trod enc Tryd.prog W 0 sp held n 5 cs = some y → ∃ x, U8R (fun _ => True) W x cs ∧ cs.length = 1 := fun n cs y h => by
    obtain ⟨a, rfl, _, hw⟩ := DataW.trod_int Tryd.underlying5 h
    exact ⟨a, ⟨rfl, wf_u8 hw⟩, rfl⟩
  obtain ⟨A, n, c, us, ha, _, hS⟩ := open_rows (R := U8R) Tryd.underlying51 cellsU8 (by decide) hrow h0
  obtain ⟨B, q, e, vs, hb, _, hT⟩ := open_rows (R := U8R) Tryd.underlying51 cellsU8 (by decide) hrow h1
  refine ⟨A, n, c, us, B, q, e, vs, ?_, hS, hT⟩
  congr 1
  apply Array.ext'
  have hc : (Value.agg cs).cells.toList = cs.toList := rfl
  rw [hc] at ha hb hl
  obtain ⟨c0, c1, hcs⟩ : ∃ c0 c1, cs.toList = [c0, c1] := by
    match cs.toList, hl with
    | [c0, c1], _ => exact ⟨c0, c1, rfl⟩
  rw [hcs] at ha hb ⊢
  simp at ha hb
  rw [ha, hb]
end

end Go.Proofs.YtkbpmcpmcmnfgaaDoor
