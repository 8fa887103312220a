/- From the arguments as a statement reads them: lists of bytes, a truth and what is taken in it. -/
import Derived.Test.YtpdldmichpmgmaaGreatCKOpA
import Derived.Test.YtpdldmichpmgmaaGreatCKOut1
set_option linter.unusedVariables false
set_option linter.unusedSimpArgs false
set_option linter.all false
namespace Go.Proofs.YtpdldmichpmgmaaGreat
open Go.ChangeShapes Go.WideShapes Go.RowKit

theorem cellsU8 : Tryz.prog.cellsOf 5 = 1 := by kernel_rfl
theorem cellsBs : Tryz.prog.cellsOf 40 = 1 := by kernel_rfl
theorem u8_of {n : Int} (h : (Lit.int .u8 n).wf = true) : ∃ k : Nat, n = k ∧ k < 256 := by
  have h2 : 0 ≤ n ∧ n ≤ 255 := by simpa [Lit.wf, IntKind.min, IntKind.max, IntKind.wrap, IntKind.signed, IntKind.bits] using h
  exact ⟨n.toNat, by omega, by omega⟩
theorem open_bytes7 {H : Type} {enc : TypeId × Value → H} {W : World} {sp : Nat → Bool} {held : Bool} {fuel : Nat} {cs : List Value} {x : DataW H × List MemPlace} (h : DataW.trod enc Tryz.prog W 0 sp held fuel 40 cs = some x) : ∃ A n c xs, cs = [.slice A n c] ∧ n ≤ c ∧ Bytes (fun _ => True) W A n xs :=
  open_rows (R := ByteR) Tryz.underlying40 cellsU8 (by decide) (fun n cs y h => by
    obtain ⟨a, rfl, _, hwf⟩ := DataW.trod_int Tryz.underlying5 h
    obtain ⟨k, rfl, hk⟩ := u8_of hwf
    exact ⟨k, ⟨rfl, hk⟩, rfl⟩) h
end Go.Proofs.YtpdldmichpmgmaaGreat
