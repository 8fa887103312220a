/- The library's two tables: what the row's list gives, and a world for the witness. -/
import Derived.Test.YtkbpmcpmcmnfgaaDoorCards
import Derived.Test.YtkbpmcpmcmnfgaaDoorTie
import Derived.ProofKit
import Derived.OpenShut
import Derived.Deep.DeepHandedRow
import Derived.Lib.LaidTab
import Derived.Stop.LaidErr
import Derived.Test.YtkbpmcpmcmnfgaaDoorCLaw6
set_option linter.unusedVariables false
set_option linter.unusedSimpArgs false
set_option linter.all false
namespace Go.Proofs.YtkbpmcpmcmnfgaaDoor
open Go.ChangeShapes Go.WideShapes Go.ChangeAt Go.RowKit

theorem own : ownKnob Tryd.prog.godebug = none := by kernel_rfl
theorem gTab : Tryd.prog.globalNamed "math/bits.deBruijn64tab" = some 1 := by kernel_rfl
theorem gTabType : (Tryd.prog.globals[1]?).map (·.type) = some 148 := by kernel_rfl
theorem cellsT : Tryd.prog.cellsOf 148 = 64 := by kernel_rfl
theorem cellsB : Tryd.prog.cellsOf 5 = 1 := by kernel_rfl
def zs64 : List Int := [0, 1, 56, 2, 57, 49, 28, 3, 61, 58, 42, 50, 38, 29, 17, 4, 62, 47, 59, 36, 45, 43, 51, 22, 53, 39, 33, 30, 24, 18, 12, 5, 63, 55, 48, 27, 60, 41, 37, 16, 46, 35, 44, 21, 52, 32, 23, 11, 54, 26, 40, 15, 34, 20, 31, 10, 25, 14, 19, 9, 13, 8, 7, 6]
def zs32 : List Int := [0, 1, 28, 2, 29, 14, 24, 3, 30, 22, 20, 15, 25, 17, 4, 8, 31, 27, 13, 23, 21, 19, 16, 7, 26, 12, 18, 6, 11, 5, 10, 9]
abbrev laidL : List (String × DataW Unit) := [("math/bits.deBruijn32tab", Rows.laid_math_bits_deBruijn32tab), ("math/bits.deBruijn64tab", Rows.laid_math_bits_deBruijn64tab)]
theorem laid_is : laidL = [("math/bits.deBruijn32tab", Lib.tabData .u8 zs32), ("math/bits.deBruijn64tab", Lib.tabData .u8 zs64)] := rfl
theorem table {W : World} (h : laidMetH Tryd.prog laidL W) : Lib.TabIs Tryd.prog W "math/bits.deBruijn64tab" .u8 zs64 := by
  have h2 : laidMet Tryd.prog laidL W := h
  rw [laid_is] at h2
  exact Lib.tabIs_of_head (rest := []) gTab gTabType Tryd.underlying148 Tryd.underlying5 cellsB cellsT h2.tail
theorem tabOk {W : World} (h : laidMetH Tryd.prog laidL W) : TabOk W := by
  have ht := table h
  exact ⟨ht.cell gTab 0 (by decide), ht.cell gTab 1 (by decide), ht.cell gTab 3 (by decide), ht.cell gTab 7 (by decide), ht.cell gTab 15 (by decide)⟩

/-- the cells of a table -/
def tabCells (zs : List Int) : Array Value := (zs.map fun z => Value.int .u8 z).toArray
def putTab (cs : Array Value) : Obj → Obj
  | .cells _ t frozen => .cells cs t frozen
  | o => o
/-- A WORLD FOR THE WITNESS: the settled one, the two tables holding what their initialisers lay. -/
noncomputable def laidWorld (os : Os) : World :=
  { World.holding Tryd.prog os ⟨#[], #[], []⟩ with heap := ((World.holding Tryd.prog os ⟨#[], #[], []⟩).heap.modify 0 (putTab (tabCells zs32))).modify 1 (putTab (tabCells zs64)) }

end Go.Proofs.YtkbpmcpmcmnfgaaDoor
