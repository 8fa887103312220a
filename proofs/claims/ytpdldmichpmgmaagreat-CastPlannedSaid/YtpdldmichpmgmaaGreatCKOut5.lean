/- Walks, layer 7: in of the laws. -/
import Derived.Test.YtpdldmichpmgmaaGreatCKOut1
set_option linter.unusedVariables false
set_option linter.unusedSimpArgs false
set_option linter.all false
namespace Go.Proofs.YtpdldmichpmgmaaGreat
open Go.RowKit Go.Shelf

theorem inspan_any (n a z : Int) (w : World) :
    Calls Tryz.prog 23 #[.int .i64 n, .agg #[.int .i64 a, .int .i64 z]] w fun e w' => e = .returned (.bool (inB n a z)) ∧ Below w.heap.size w w' := by
  have hB := bl_alloc (Below.refl w.heap.size w) (.cells #[.int .i64 a, .int .i64 z] 23) (Nat.le_refl _)
  by_cases h1 : a ≤ n
  · go_enter Tryz.func23, Tryz.ntmps23
    go_wp2_with fail
    go_ret
    exact ⟨ret_bool (by simp [inB, h1]), hB⟩
  · go_enter Tryz.func23, Tryz.ntmps23
    go_wp2_with fail
    go_ret
    exact ⟨ret_bool (by simp [inB, h1]; omega), hB⟩
end Go.Proofs.YtpdldmichpmgmaaGreat
