/- A part of the proof that TopWorn always answers true. -/
import Derived.Test.YtdbfincinjoppabGreatDoorCards
import Derived.Test.YtdbfincinjoppabGreatDoorTie
import Derived.ProofKit
import Derived.OpenShut
import Derived.Deep.DeepHandedRow
import Derived.Lib.LaidTab
import Derived.Stop.LaidErr
import Derived.Test.YtdbfincinjoppabGreatDoorCLaw6
import Derived.Test.YtdbfincinjoppabGreatDoorCTilePure
set_option linter.all false
namespace Go.Proofs.YtdbfincinjoppabGreatDoor
open Go.ChangeShapes Go.WideShapes Go.ChangeAt Go.RowKit
theorem own : ownKnob Tryz.prog.godebug = none := by kernel_rfl
theorem gTab : Tryz.prog.globalNamed "math/bits.deBruijn64tab" = some 1 := by kernel_rfl
theorem gTabType : (Tryz.prog.globals[1]?).map (·.type) = some 192 := by kernel_rfl
theorem cellsT : Tryz.prog.cellsOf 192 = 64 := by kernel_rfl
theorem cellsB : Tryz.prog.cellsOf 5 = 1 := by kernel_rfl
def zs64 : List Int := [0, 1, 56, 2, 57, 49, 28, 3, 61, 58, 42, 50, 38, 29, 17, 4, 62, 47, 59, 36, 45, 43, 51, 22, 53, 39, 33, 30, 24, 18, 12, 5, 63, 55, 48, 27, 60, 41, 37, 16, 46, 35, 44, 21, 52, 32, 23, 11, 54, 26, 40, 15, 34, 20, 31, 10, 25, 14, 19, 9, 13, 8, 7, 6]
def zs32 : List Int := [0, 1, 28, 2, 29, 14, 24, 3, 30, 22, 20, 15, 25, 17, 4, 8, 31, 27, 13, 23, 21, 19, 16, 7, 26, 12, 18, 6, 11, 5, 10, 9]
abbrev laidL : List (String × DataW Unit) := [("math/bits.deBruijn32tab", Rows.laid_math_bits_deBruijn32tab), ("math/bits.deBruijn64tab", Rows.laid_math_bits_deBruijn64tab)]
theorem laid_is : laidL = [("math/bits.deBruijn32tab", Lib.tabData .u8 zs32), ("math/bits.deBruijn64tab", Lib.tabData .u8 zs64)] := rfl
theorem table {W : World} (h : laidMetH Tryz.prog laidL W) : Lib.TabIs Tryz.prog W "math/bits.deBruijn64tab" .u8 zs64 := by
 have h2 : laidMet Tryz.prog laidL W := h
 rw [laid_is] at h2
 exact Lib.tabIs_of_head (rest := []) gTab gTabType Tryz.underlying192 Tryz.underlying5 cellsB cellsT h2.tail
theorem tabOk {W : World} (h : laidMetH Tryz.prog laidL W) : TabOk W := by
 have ht := table h
 exact ⟨ht.cell gTab 0 (by decide), ht.cell gTab 1 (by decide), ht.cell gTab 3 (by decide), ht.cell gTab 7 (by decide), ht.cell gTab 15 (by decide)⟩
def tabCells (zs : List Int) : Array Value := (zs.map fun z => Value.int .u8 z).toArray
def putTab (cs : Array Value) : Obj → Obj
 | .cells _ t frozen => .cells cs t frozen
 | o => o
noncomputable def laidWorld (os : Os) : World :=
 { World.holding Tryz.prog os ⟨#[], #[], []⟩ with heap := ((World.holding Tryz.prog os ⟨#[], #[], []⟩).heap.modify 0 (putTab (tabCells zs32))).modify 1 (putTab (tabCells zs64)) }
structure Mould where
 name : List UInt8
 slo : Int
 shi : Int
 wlo : Int
 whi : Int
 casts : Int
structure Shop where
 klo : Int
 khi : Int
 moulds : List Mould
structure SeenC where
 mould : Int
 cast : Int
 lo : Int
 hi : Int
def dMould : Mould := ⟨[], 0, 0, 0, 0, 0⟩
def dSeenC : SeenC := ⟨0, 0, 0, 0⟩
def mouldN (x : Mould) : Int :=
 if !inB x.slo 1 20000 || !inB x.shi 1 20000 || !inB x.wlo 0 20 || !inB x.whi 0 20 || !inB x.casts 1 8 then 7
 else if !inB x.shi x.slo (x.slo + 12) || !inB x.whi x.wlo (x.wlo + 3) then 2 else 0
def mouldE (l : List Mould) (k : Nat) : Int :=
 let x := l.getD k dMould
 let e := fresh x.name ((l.take k).map (·.name))
 if e ≠ 0 then e else mouldN x
def check7 (s : Shop) : Int × Int × Int :=
 if !inB s.klo 0 100 || !inB s.khi 0 100 then (1, 0, 7)
 else if !inB s.khi s.klo (s.klo + 6) then (1, 0, 2)
 else if ¬ (1 ≤ s.moulds.length ∧ s.moulds.length ≤ 4) then (1, 0, 3)
 else match firstErr (mouldE s.moulds) s.moulds.length with
 | some (k, e) => (2, k, e)
 | none => (0, 0, 0)
def err7 (s : Shop) : Int := (check7 s).2.2
def there7 (s : Shop) (m c : Int) : Bool := inB m 0 ((s.moulds.length : Int) - 1) && inB c 0 ((s.moulds.getD m.toNat dMould).casts - 1)
def seenE7 (s : Shop) (l : List SeenC) (k : Nat) : Int :=
 let x := l.getD k dSeenC
 if !there7 s x.mould x.cast then 4 else rangeE ⟨x.lo, x.hi⟩ 0 20000
def seen7 (s : Shop) (l : List SeenC) : Int × Int :=
 if err7 s ≠ 0 then (0, err7 s) else if 6 < l.length then (0, 3) else
 match firstErr (seenE7 s l) l.length with
 | some (k, e) => (k, e)
 | none => (0, 0)
def made7 (size wear cast shrink : Int) : Int := (size + wear * cast) - ((size + wear * cast) * shrink).tdiv 1000
def twoOk7 (l : List SeenC) (m : Nat) (k a w : Int) : Bool := l.all fun y => !(y.mould == (m : Int)) || inB (made7 a w y.cast k) y.lo y.hi
def sizeN (x : Mould) : Nat := (x.shi - x.slo + 1).toNat
def wearN (x : Mould) : Nat := (x.whi - x.wlo + 1).toNat
def pairC (x : Mould) (i : Nat) : Int × Int := (x.slo + ((i / wearN x : Nat) : Int), x.wlo + ((i % wearN x : Nat) : Int))
def twosC (s : Shop) (l : List SeenC) (m : Nat) (k : Int) : List (Int × Int) := ((List.range (sizeN (s.moulds.getD m dMould) * wearN (s.moulds.getD m dMould))).map (pairC (s.moulds.getD m dMould))).filter fun p => twoOk7 l m k p.1 p.2
def knownB (s : Shop) (l : List SeenC) (k : Int) : Bool := (List.range s.moulds.length).all fun m => !(twosC s l m k).isEmpty
def shrinkL (s : Shop) : List Int := (List.range (s.khi - s.klo + 1).toNat).map fun i : Nat => s.klo + (i : Int)
def known7 (s : Shop) (l : List SeenC) : List Int := (shrinkL s).filter (knownB s l)
def madeL (s : Shop) (l : List SeenC) (m : Nat) (c : Int) : List Int := (known7 s l).flatMap fun k => (twosC s l m k).map fun p => made7 p.1 p.2 c k
def size7 (s : Shop) (l : List SeenC) (m : Nat) (c : Int) : Int × Int := endsOf (madeL s l m c)
def sizesR (s : Shop) (l : List SeenC) (m c : Int) : (Int × Int) × Int :=
 if (seen7 s l).2 ≠ 0 then ((0, 0), (seen7 s l).2) else
 if !there7 s m c then ((0, 0), 4) else
 if known7 s l = [] then ((0, 0), 9) else (size7 s l m.toNat c, 0)
def shrinksR (s : Shop) (l : List SeenC) : List Int × Int :=
 if (seen7 s l).2 ≠ 0 then ([], (seen7 s l).2) else
 if known7 s l = [] then ([], 9) else (known7 s l, 0)
def placesL (s : Shop) : List (Nat × Nat) := (List.range s.moulds.length).flatMap fun m => (List.range (s.moulds.getD m dMould).casts.toNat).map fun c => (m, c)
def fit7 (s : Shop) (l : List SeenC) (a z : Int) : List (Nat × Nat) := (placesL s).filter fun p => decide (a ≤ (size7 s l p.1 p.2).1) && decide ((size7 s l p.1 p.2).2 ≤ z)
def fitsR (s : Shop) (l : List SeenC) (a z : Int) : List (Nat × Nat) × Int :=
 if (seen7 s l).2 ≠ 0 then ([], (seen7 s l).2) else
 if rangeE ⟨a, z⟩ 0 20000 ≠ 0 then ([], rangeE ⟨a, z⟩ 0 20000) else
 if known7 s l = [] then ([], 9) else (fit7 s l a z, 0)
end Go.Proofs.YtdbfincinjoppabGreatDoor
