/- From the arguments as a statement reads them: a byte. -/
import Derived.Test.YtpdldmichpmgmaaGreatCKOpB
set_option linter.unusedVariables false
set_option linter.unusedSimpArgs false
set_option linter.all false
namespace Go.Proofs.YtpdldmichpmgmaaGreat
open Go.ChangeShapes Go.WideShapes Go.RowKit

set_option maxRecDepth 100000 in
theorem open_u87 {H : Type} {enc : TypeId × Value → H} {W : World} {v : Value} {d : DataW H} {p : List MemPlace} {r : Reach} {b0 : Nat} {sp : Nat → Bool} {held : Bool} (hok : Value.okWide Tryz.prog W r b0 5 v) (h : DataW.Trod enc Tryz.prog W 0 sp held 5 v d p) : ∃ x : Nat, v = .int .u8 x ∧ x < 256 := by
  obtain ⟨x, rfl⟩ := okWide_int Tryz.underlying5 hok
  obtain ⟨f, hf⟩ := h
  obtain ⟨n, hn, _, hw⟩ := DataW.trod_int Tryz.underlying5 hf
  have hn : x = n := by simpa [Value.cells] using hn
  subst hn
  obtain ⟨k, rfl, hk⟩ := u8_of hw
  exact ⟨k, rfl, hk⟩
end Go.Proofs.YtpdldmichpmgmaaGreat
