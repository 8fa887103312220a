/-
  NARROWER THAN 'FOR EVERY INPUT', by the rows' own cells (each row's printed sentence says how): BackSets: laid · BackMust: laid · BackAsks: laid · BackKnown: laid · BackTrue: laid · BackFewer: laid · BackNeeded: laid · BackMore: laid · BackAsked: laid · BackWrong: laid · BackLarger: laid · BackFurther: laid.
  DERIVED. THE GIVEN ROWS OF THIS SEAT. 12 by the template 'for every input the law returns true; each argument reads behind the call as it read before'; 0 by the template 'total and deterministic' (their statements: YtkbpmcpmcmnfgaaDoorTotals.lean).
  GIVEN WITH THE SEED: the statements are not yours to turn. If you find one false, say at which input.
  Laid BY PROGRAM, IN A SANDBOX (cutbox-rows.mjs): the forced cells as the released guide's own fill.sh prints them over the translation 740c18b300392c06… (all of the seat's roots in one cut). By AI agents, Wed Nov 11 2026. No macro, syntax, notation, axiom, sorry.
-/
import Derived.Test.YtkbpmcpmcmnfgaaDoorChecked
import GoSem.Claim
import GoSem.ClaimJoined
import GoSem.ClaimMapViews
import Derived.JoinedTies
import Derived.KernelRfl
namespace Go.Proofs.YtkbpmcpmcmnfgaaDoor
/- THE CELL 'sum', in the pinned program and in every row, IS THE sha256 OF THE DUMP (.gsa) THAT YtkbpmcpmcmnfgaaDoorProg.lean LOADS. Nothing in Lean hashes anything: it is a label: what it is worth is what the hold of that sum in a sandbox is worth. -/
noncomputable def Tryd.pinned : Pinned := { name := "ytkbpmcpmcmnfgaadoor", sum := "740c18b300392c065ba6549bae5a4aeb620e7d2588044f82b69d3fc82e893ee5", checked := Tryd.checked }
namespace Rows
def none {H : Type} : Left H := { results := [], args := [] }

/- WHAT THE LISTED PACKAGE-LEVEL VARIABLES READ AS WHEN THE CALL BEGINS. Each datum BY PROGRAM (the guide's laid-datum.mjs) off the statement by which the dump's own 'gosem.cut.vars' lays the variable. In a bare row this is a premise. The card (YtkbpmcpmcmnfgaaDoorCards.lean) ties it to the program's text. -/
def laid_math_bits_deBruijn32tab {H : Type} : DataW H := .agg [.lit (.int .u8 0), .lit (.int .u8 1), .lit (.int .u8 28), .lit (.int .u8 2), .lit (.int .u8 29), .lit (.int .u8 14), .lit (.int .u8 24), .lit (.int .u8 3), .lit (.int .u8 30), .lit (.int .u8 22), .lit (.int .u8 20), .lit (.int .u8 15), .lit (.int .u8 25), .lit (.int .u8 17), .lit (.int .u8 4), .lit (.int .u8 8), .lit (.int .u8 31), .lit (.int .u8 27), .lit (.int .u8 13), .lit (.int .u8 23), .lit (.int .u8 21), .lit (.int .u8 19), .lit (.int .u8 16), .lit (.int .u8 7), .lit (.int .u8 26), .lit (.int .u8 12), .lit (.int .u8 18), .lit (.int .u8 6), .lit (.int .u8 11), .lit (.int .u8 5), .lit (.int .u8 10), .lit (.int .u8 9)]
def laid_math_bits_deBruijn64tab {H : Type} : DataW H := .agg [.lit (.int .u8 0), .lit (.int .u8 1), .lit (.int .u8 56), .lit (.int .u8 2), .lit (.int .u8 57), .lit (.int .u8 49), .lit (.int .u8 28), .lit (.int .u8 3), .lit (.int .u8 61), .lit (.int .u8 58), .lit (.int .u8 42), .lit (.int .u8 50), .lit (.int .u8 38), .lit (.int .u8 29), .lit (.int .u8 17), .lit (.int .u8 4), .lit (.int .u8 62), .lit (.int .u8 47), .lit (.int .u8 59), .lit (.int .u8 36), .lit (.int .u8 45), .lit (.int .u8 43), .lit (.int .u8 51), .lit (.int .u8 22), .lit (.int .u8 53), .lit (.int .u8 39), .lit (.int .u8 33), .lit (.int .u8 30), .lit (.int .u8 24), .lit (.int .u8 18), .lit (.int .u8 12), .lit (.int .u8 5), .lit (.int .u8 63), .lit (.int .u8 55), .lit (.int .u8 48), .lit (.int .u8 27), .lit (.int .u8 60), .lit (.int .u8 41), .lit (.int .u8 37), .lit (.int .u8 16), .lit (.int .u8 46), .lit (.int .u8 35), .lit (.int .u8 44), .lit (.int .u8 21), .lit (.int .u8 52), .lit (.int .u8 32), .lit (.int .u8 23), .lit (.int .u8 11), .lit (.int .u8 54), .lit (.int .u8 26), .lit (.int .u8 40), .lit (.int .u8 15), .lit (.int .u8 34), .lit (.int .u8 20), .lit (.int .u8 31), .lit (.int .u8 10), .lit (.int .u8 25), .lit (.int .u8 14), .lit (.int .u8 19), .lit (.int .u8 9), .lit (.int .u8 13), .lit (.int .u8 8), .lit (.int .u8 7), .lit (.int .u8 6)]

/-- 'hachurelaw12.BackSets': WHATEVER THE INPUT: true; the input reads as it did. -/
def backSetsSpec : ChangeSpec := { name := "backSets", fn := fun _ => fun
  | [d] => { results := [.lit (.bool true)], args := [d] }
  | _ => none }
def backSetsRow : OpenClaim := { program := "ytkbpmcpmcmnfgaadoor", sum := "740c18b300392c065ba6549bae5a4aeb620e7d2588044f82b69d3fc82e893ee5", func := "hachure/hachurelaw12.BackSets", spec := "backSets", unfollowed := true, recurses := true, named := ["math/bits.deBruijn32tab", "math/bits.deBruijn64tab"], plainKeys := false, apart := false, laid := [("math/bits.deBruijn32tab", laid_math_bits_deBruijn32tab), ("math/bits.deBruijn64tab", laid_math_bits_deBruijn64tab)] }
def BackSetsSaid : Prop := backSetsRow.holds Tryd.pinned (OpenSpec.ofChange backSetsSpec)

/-- ITS FALSE NEIGHBOUR: 'it returns false'. Refute it at one input. -/
def backSetsWrong : ChangeSpec := { name := "backSets", fn := fun _ => fun
  | [d] => { results := [.lit (.bool false)], args := [d] }
  | _ => none }
def BackSetsWrongFalsely : Prop := backSetsRow.holds Tryd.pinned (OpenSpec.ofChange backSetsWrong)

/-- 'hachurelaw12.BackMust': WHATEVER THE INPUT: true; the input reads as it did. -/
def backMustSpec : ChangeSpec := { name := "backMust", fn := fun _ => fun
  | [d1, d2] => { results := [.lit (.bool true)], args := [d1, d2] }
  | _ => none }
def backMustRow : OpenClaim := { program := "ytkbpmcpmcmnfgaadoor", sum := "740c18b300392c065ba6549bae5a4aeb620e7d2588044f82b69d3fc82e893ee5", func := "hachure/hachurelaw12.BackMust", spec := "backMust", unfollowed := true, recurses := true, named := ["math/bits.deBruijn32tab", "math/bits.deBruijn64tab"], plainKeys := false, apart := false, laid := [("math/bits.deBruijn32tab", laid_math_bits_deBruijn32tab), ("math/bits.deBruijn64tab", laid_math_bits_deBruijn64tab)] }
def BackMustSaid : Prop := backMustRow.holds Tryd.pinned (OpenSpec.ofChange backMustSpec)

/-- ITS FALSE NEIGHBOUR: 'it returns false'. Refute it at one input. -/
def backMustWrong : ChangeSpec := { name := "backMust", fn := fun _ => fun
  | [d1, d2] => { results := [.lit (.bool false)], args := [d1, d2] }
  | _ => none }
def BackMustWrongFalsely : Prop := backMustRow.holds Tryd.pinned (OpenSpec.ofChange backMustWrong)

/-- 'hachurelaw12.BackAsks': WHATEVER THE INPUT: true; the input reads as it did. -/
def backAsksSpec : ChangeSpec := { name := "backAsks", fn := fun _ => fun
  | [d] => { results := [.lit (.bool true)], args := [d] }
  | _ => none }
def backAsksRow : OpenClaim := { program := "ytkbpmcpmcmnfgaadoor", sum := "740c18b300392c065ba6549bae5a4aeb620e7d2588044f82b69d3fc82e893ee5", func := "hachure/hachurelaw12.BackAsks", spec := "backAsks", unfollowed := true, recurses := true, named := ["math/bits.deBruijn32tab", "math/bits.deBruijn64tab"], plainKeys := false, apart := false, laid := [("math/bits.deBruijn32tab", laid_math_bits_deBruijn32tab), ("math/bits.deBruijn64tab", laid_math_bits_deBruijn64tab)] }
def BackAsksSaid : Prop := backAsksRow.holds Tryd.pinned (OpenSpec.ofChange backAsksSpec)

/-- ITS FALSE NEIGHBOUR: 'it returns false'. Refute it at one input. -/
def backAsksWrong : ChangeSpec := { name := "backAsks", fn := fun _ => fun
  | [d] => { results := [.lit (.bool false)], args := [d] }
  | _ => none }
def BackAsksWrongFalsely : Prop := backAsksRow.holds Tryd.pinned (OpenSpec.ofChange backAsksWrong)

/-- 'hachurelaw12.BackKnown': WHATEVER THE INPUT: true; the input reads as it did. -/
def backKnownSpec : ChangeSpec := { name := "backKnown", fn := fun _ => fun
  | [] => { results := [.lit (.bool true)], args := [] }
  | _ => none }
def backKnownRow : OpenClaim := { program := "ytkbpmcpmcmnfgaadoor", sum := "740c18b300392c065ba6549bae5a4aeb620e7d2588044f82b69d3fc82e893ee5", func := "hachure/hachurelaw12.BackKnown", spec := "backKnown", unfollowed := true, recurses := true, named := ["math/bits.deBruijn32tab", "math/bits.deBruijn64tab"], plainKeys := false, apart := false, laid := [("math/bits.deBruijn32tab", laid_math_bits_deBruijn32tab), ("math/bits.deBruijn64tab", laid_math_bits_deBruijn64tab)] }
def BackKnownSaid : Prop := backKnownRow.holds Tryd.pinned (OpenSpec.ofChange backKnownSpec)

/-- ITS FALSE NEIGHBOUR: 'it returns false'. Refute it at one input. -/
def backKnownWrong : ChangeSpec := { name := "backKnown", fn := fun _ => fun
  | [] => { results := [.lit (.bool false)], args := [] }
  | _ => none }
def BackKnownWrongFalsely : Prop := backKnownRow.holds Tryd.pinned (OpenSpec.ofChange backKnownWrong)

/-- 'hachurelaw12.BackTrue': WHATEVER THE INPUT: true; the input reads as it did. -/
def backTrueSpec : ChangeSpec := { name := "backTrue", fn := fun _ => fun
  | [d1, d2, d3] => { results := [.lit (.bool true)], args := [d1, d2, d3] }
  | _ => none }
def backTrueRow : OpenClaim := { program := "ytkbpmcpmcmnfgaadoor", sum := "740c18b300392c065ba6549bae5a4aeb620e7d2588044f82b69d3fc82e893ee5", func := "hachure/hachurelaw12.BackTrue", spec := "backTrue", unfollowed := true, recurses := true, named := ["math/bits.deBruijn32tab", "math/bits.deBruijn64tab"], plainKeys := false, apart := false, laid := [("math/bits.deBruijn32tab", laid_math_bits_deBruijn32tab), ("math/bits.deBruijn64tab", laid_math_bits_deBruijn64tab)] }
def BackTrueSaid : Prop := backTrueRow.holds Tryd.pinned (OpenSpec.ofChange backTrueSpec)

/-- ITS FALSE NEIGHBOUR: 'it returns false'. Refute it at one input. -/
def backTrueWrong : ChangeSpec := { name := "backTrue", fn := fun _ => fun
  | [d1, d2, d3] => { results := [.lit (.bool false)], args := [d1, d2, d3] }
  | _ => none }
def BackTrueWrongFalsely : Prop := backTrueRow.holds Tryd.pinned (OpenSpec.ofChange backTrueWrong)

/-- 'hachurelaw12.BackFewer': WHATEVER THE INPUT: true; the input reads as it did. -/
def backFewerSpec : ChangeSpec := { name := "backFewer", fn := fun _ => fun
  | [d1, d2] => { results := [.lit (.bool true)], args := [d1, d2] }
  | _ => none }
def backFewerRow : OpenClaim := { program := "ytkbpmcpmcmnfgaadoor", sum := "740c18b300392c065ba6549bae5a4aeb620e7d2588044f82b69d3fc82e893ee5", func := "hachure/hachurelaw12.BackFewer", spec := "backFewer", unfollowed := true, recurses := true, named := ["math/bits.deBruijn32tab", "math/bits.deBruijn64tab"], plainKeys := false, apart := false, laid := [("math/bits.deBruijn32tab", laid_math_bits_deBruijn32tab), ("math/bits.deBruijn64tab", laid_math_bits_deBruijn64tab)] }
def BackFewerSaid : Prop := backFewerRow.holds Tryd.pinned (OpenSpec.ofChange backFewerSpec)

/-- ITS FALSE NEIGHBOUR: 'it returns false'. Refute it at one input. -/
def backFewerWrong : ChangeSpec := { name := "backFewer", fn := fun _ => fun
  | [d1, d2] => { results := [.lit (.bool false)], args := [d1, d2] }
  | _ => none }
def BackFewerWrongFalsely : Prop := backFewerRow.holds Tryd.pinned (OpenSpec.ofChange backFewerWrong)

/-- 'hachurelaw12.BackNeeded': WHATEVER THE INPUT: true; the input reads as it did. -/
def backNeededSpec : ChangeSpec := { name := "backNeeded", fn := fun _ => fun
  | [d] => { results := [.lit (.bool true)], args := [d] }
  | _ => none }
def backNeededRow : OpenClaim := { program := "ytkbpmcpmcmnfgaadoor", sum := "740c18b300392c065ba6549bae5a4aeb620e7d2588044f82b69d3fc82e893ee5", func := "hachure/hachurelaw12.BackNeeded", spec := "backNeeded", unfollowed := true, recurses := true, named := ["math/bits.deBruijn32tab", "math/bits.deBruijn64tab"], plainKeys := false, apart := false, laid := [("math/bits.deBruijn32tab", laid_math_bits_deBruijn32tab), ("math/bits.deBruijn64tab", laid_math_bits_deBruijn64tab)] }
def BackNeededSaid : Prop := backNeededRow.holds Tryd.pinned (OpenSpec.ofChange backNeededSpec)

/-- ITS FALSE NEIGHBOUR: 'it returns false'. Refute it at one input. -/
def backNeededWrong : ChangeSpec := { name := "backNeeded", fn := fun _ => fun
  | [d] => { results := [.lit (.bool false)], args := [d] }
  | _ => none }
def BackNeededWrongFalsely : Prop := backNeededRow.holds Tryd.pinned (OpenSpec.ofChange backNeededWrong)

/-- 'hachurelaw12.BackMore': WHATEVER THE INPUT: true; the input reads as it did. -/
def backMoreSpec : ChangeSpec := { name := "backMore", fn := fun _ => fun
  | [d1, d2, d3] => { results := [.lit (.bool true)], args := [d1, d2, d3] }
  | _ => none }
def backMoreRow : OpenClaim := { program := "ytkbpmcpmcmnfgaadoor", sum := "740c18b300392c065ba6549bae5a4aeb620e7d2588044f82b69d3fc82e893ee5", func := "hachure/hachurelaw12.BackMore", spec := "backMore", unfollowed := true, recurses := true, named := ["math/bits.deBruijn32tab", "math/bits.deBruijn64tab"], plainKeys := false, apart := false, laid := [("math/bits.deBruijn32tab", laid_math_bits_deBruijn32tab), ("math/bits.deBruijn64tab", laid_math_bits_deBruijn64tab)] }
def BackMoreSaid : Prop := backMoreRow.holds Tryd.pinned (OpenSpec.ofChange backMoreSpec)

/-- ITS FALSE NEIGHBOUR: 'it returns false'. Refute it at one input. -/
def backMoreWrong : ChangeSpec := { name := "backMore", fn := fun _ => fun
  | [d1, d2, d3] => { results := [.lit (.bool false)], args := [d1, d2, d3] }
  | _ => none }
def BackMoreWrongFalsely : Prop := backMoreRow.holds Tryd.pinned (OpenSpec.ofChange backMoreWrong)

/-- 'hachurelaw12.BackAsked': WHATEVER THE INPUT: true; the input reads as it did. -/
def backAskedSpec : ChangeSpec := { name := "backAsked", fn := fun _ => fun
  | [d1, d2, d3] => { results := [.lit (.bool true)], args := [d1, d2, d3] }
  | _ => none }
def backAskedRow : OpenClaim := { program := "ytkbpmcpmcmnfgaadoor", sum := "740c18b300392c065ba6549bae5a4aeb620e7d2588044f82b69d3fc82e893ee5", func := "hachure/hachurelaw12.BackAsked", spec := "backAsked", unfollowed := true, recurses := true, named := ["math/bits.deBruijn32tab", "math/bits.deBruijn64tab"], plainKeys := false, apart := false, laid := [("math/bits.deBruijn32tab", laid_math_bits_deBruijn32tab), ("math/bits.deBruijn64tab", laid_math_bits_deBruijn64tab)] }
def BackAskedSaid : Prop := backAskedRow.holds Tryd.pinned (OpenSpec.ofChange backAskedSpec)

/-- ITS FALSE NEIGHBOUR: 'it returns false'. Refute it at one input. -/
def backAskedWrong : ChangeSpec := { name := "backAsked", fn := fun _ => fun
  | [d1, d2, d3] => { results := [.lit (.bool false)], args := [d1, d2, d3] }
  | _ => none }
def BackAskedWrongFalsely : Prop := backAskedRow.holds Tryd.pinned (OpenSpec.ofChange backAskedWrong)

/-- 'hachurelaw12.BackWrong': WHATEVER THE INPUT: true; the input reads as it did. -/
def backWrongSpec : ChangeSpec := { name := "backWrong", fn := fun _ => fun
  | [d1, d2, d3] => { results := [.lit (.bool true)], args := [d1, d2, d3] }
  | _ => none }
def backWrongRow : OpenClaim := { program := "ytkbpmcpmcmnfgaadoor", sum := "740c18b300392c065ba6549bae5a4aeb620e7d2588044f82b69d3fc82e893ee5", func := "hachure/hachurelaw12.BackWrong", spec := "backWrong", unfollowed := true, recurses := true, named := ["math/bits.deBruijn32tab", "math/bits.deBruijn64tab"], plainKeys := false, apart := false, laid := [("math/bits.deBruijn32tab", laid_math_bits_deBruijn32tab), ("math/bits.deBruijn64tab", laid_math_bits_deBruijn64tab)] }
def BackWrongSaid : Prop := backWrongRow.holds Tryd.pinned (OpenSpec.ofChange backWrongSpec)

/-- ITS FALSE NEIGHBOUR: 'it returns false'. Refute it at one input. -/
def backWrongWrong : ChangeSpec := { name := "backWrong", fn := fun _ => fun
  | [d1, d2, d3] => { results := [.lit (.bool false)], args := [d1, d2, d3] }
  | _ => none }
def BackWrongWrongFalsely : Prop := backWrongRow.holds Tryd.pinned (OpenSpec.ofChange backWrongWrong)

/-- 'hachurelaw12.BackLarger': WHATEVER THE INPUT: true; the input reads as it did. -/
def backLargerSpec : ChangeSpec := { name := "backLarger", fn := fun _ => fun
  | [d1, d2, d3] => { results := [.lit (.bool true)], args := [d1, d2, d3] }
  | _ => none }
def backLargerRow : OpenClaim := { program := "ytkbpmcpmcmnfgaadoor", sum := "740c18b300392c065ba6549bae5a4aeb620e7d2588044f82b69d3fc82e893ee5", func := "hachure/hachurelaw12.BackLarger", spec := "backLarger", unfollowed := true, recurses := true, named := ["math/bits.deBruijn32tab", "math/bits.deBruijn64tab"], plainKeys := false, apart := false, laid := [("math/bits.deBruijn32tab", laid_math_bits_deBruijn32tab), ("math/bits.deBruijn64tab", laid_math_bits_deBruijn64tab)] }
def BackLargerSaid : Prop := backLargerRow.holds Tryd.pinned (OpenSpec.ofChange backLargerSpec)

/-- ITS FALSE NEIGHBOUR: 'it returns false'. Refute it at one input. -/
def backLargerWrong : ChangeSpec := { name := "backLarger", fn := fun _ => fun
  | [d1, d2, d3] => { results := [.lit (.bool false)], args := [d1, d2, d3] }
  | _ => none }
def BackLargerWrongFalsely : Prop := backLargerRow.holds Tryd.pinned (OpenSpec.ofChange backLargerWrong)

/-- 'hachurelaw12.BackFurther': WHATEVER THE INPUT: true; the input reads as it did. -/
def backFurtherSpec : ChangeSpec := { name := "backFurther", fn := fun _ => fun
  | [d1, d2] => { results := [.lit (.bool true)], args := [d1, d2] }
  | _ => none }
def backFurtherRow : OpenClaim := { program := "ytkbpmcpmcmnfgaadoor", sum := "740c18b300392c065ba6549bae5a4aeb620e7d2588044f82b69d3fc82e893ee5", func := "hachure/hachurelaw12.BackFurther", spec := "backFurther", unfollowed := true, recurses := true, named := ["math/bits.deBruijn32tab", "math/bits.deBruijn64tab"], plainKeys := false, apart := false, laid := [("math/bits.deBruijn32tab", laid_math_bits_deBruijn32tab), ("math/bits.deBruijn64tab", laid_math_bits_deBruijn64tab)] }
def BackFurtherSaid : Prop := backFurtherRow.holds Tryd.pinned (OpenSpec.ofChange backFurtherSpec)

/-- ITS FALSE NEIGHBOUR: 'it returns false'. Refute it at one input. -/
def backFurtherWrong : ChangeSpec := { name := "backFurther", fn := fun _ => fun
  | [d1, d2] => { results := [.lit (.bool false)], args := [d1, d2] }
  | _ => none }
def BackFurtherWrongFalsely : Prop := backFurtherRow.holds Tryd.pinned (OpenSpec.ofChange backFurtherWrong)

/- THE SECOND FORM. 'bulk': how many values and letters a reading holds, each counted each time it is reached (what is shared counts as often as it is met; a slice's spare places count too). A statement '..UptoSaid' is the law's where the arguments, and the package variables that the reading takes, are together of bulk at most 1048576: NARROWER than '..Said'. Prove '..Said' where nothing that the law and all that it calls make is longer than what came in: it says more and counts as full. Else prove '..UptoSaid'. A law counts once. -/
mutual
def uptoBulk {H : Type} : DataW H → Nat
  | .lit (.string bytes) => bytes.length + 1
  | .lit _ => 1
  | .nil => 1
  | .ptr d => uptoBulk d + 1
  | .slice elems spare => uptoBulkAll elems + uptoBulkAll spare + 1
  | .agg parts => uptoBulkAll parts + 1
  | .iface _ d => uptoBulk d + 1
  | .map entries => uptoBulkEntries entries + 1
  | .held _ => 1
def uptoBulkAll {H : Type} : List (DataW H) → Nat
  | [] => 0
  | d :: r => uptoBulk d + uptoBulkAll r
def uptoBulkEntries {H : Type} : List (Lit × DataW H) → Nat
  | [] => 0
  | x :: r => uptoBulkEntry x + uptoBulkEntries r
def uptoBulkEntry {H : Type} : Lit × DataW H → Nat
  | (.string bytes, d) => bytes.length + uptoBulk d + 1
  | (_, d) => uptoBulk d + 1
 end
def uptoSmall : (H : Type) → List (DataW H) → Bool := fun _ ds => decide (uptoBulkAll ds ≤ 1048576)
def OpenSpec.upto (s : _root_.Go.ChangeSpec) : _root_.Go.OpenSpec := { _root_.Go.OpenSpec.ofChange s with cond := some uptoSmall }

/-- 'hachurelaw12.BackSets', WHERE WHAT IT READS IS OF BULK AT MOST 1048576: true; the input reads as it did. -/
def backSetsUptoRow : OpenClaim := { program := "ytkbpmcpmcmnfgaadoor", sum := "740c18b300392c065ba6549bae5a4aeb620e7d2588044f82b69d3fc82e893ee5", func := "hachure/hachurelaw12.BackSets", spec := "backSets", unfollowed := true, recurses := true, named := ["math/bits.deBruijn32tab", "math/bits.deBruijn64tab"], plainKeys := false, apart := false, laid := [("math/bits.deBruijn32tab", laid_math_bits_deBruijn32tab), ("math/bits.deBruijn64tab", laid_math_bits_deBruijn64tab)], narrowed := true }
def BackSetsUptoSaid : Prop := backSetsUptoRow.holds Tryd.pinned (OpenSpec.upto backSetsSpec)

/-- 'hachurelaw12.BackMust', WHERE WHAT IT READS IS OF BULK AT MOST 1048576: true; the input reads as it did. -/
def backMustUptoRow : OpenClaim := { program := "ytkbpmcpmcmnfgaadoor", sum := "740c18b300392c065ba6549bae5a4aeb620e7d2588044f82b69d3fc82e893ee5", func := "hachure/hachurelaw12.BackMust", spec := "backMust", unfollowed := true, recurses := true, named := ["math/bits.deBruijn32tab", "math/bits.deBruijn64tab"], plainKeys := false, apart := false, laid := [("math/bits.deBruijn32tab", laid_math_bits_deBruijn32tab), ("math/bits.deBruijn64tab", laid_math_bits_deBruijn64tab)], narrowed := true }
def BackMustUptoSaid : Prop := backMustUptoRow.holds Tryd.pinned (OpenSpec.upto backMustSpec)

/-- 'hachurelaw12.BackAsks', WHERE WHAT IT READS IS OF BULK AT MOST 1048576: true; the input reads as it did. -/
def backAsksUptoRow : OpenClaim := { program := "ytkbpmcpmcmnfgaadoor", sum := "740c18b300392c065ba6549bae5a4aeb620e7d2588044f82b69d3fc82e893ee5", func := "hachure/hachurelaw12.BackAsks", spec := "backAsks", unfollowed := true, recurses := true, named := ["math/bits.deBruijn32tab", "math/bits.deBruijn64tab"], plainKeys := false, apart := false, laid := [("math/bits.deBruijn32tab", laid_math_bits_deBruijn32tab), ("math/bits.deBruijn64tab", laid_math_bits_deBruijn64tab)], narrowed := true }
def BackAsksUptoSaid : Prop := backAsksUptoRow.holds Tryd.pinned (OpenSpec.upto backAsksSpec)

/-- 'hachurelaw12.BackKnown', WHERE WHAT IT READS IS OF BULK AT MOST 1048576: true; the input reads as it did. -/
def backKnownUptoRow : OpenClaim := { program := "ytkbpmcpmcmnfgaadoor", sum := "740c18b300392c065ba6549bae5a4aeb620e7d2588044f82b69d3fc82e893ee5", func := "hachure/hachurelaw12.BackKnown", spec := "backKnown", unfollowed := true, recurses := true, named := ["math/bits.deBruijn32tab", "math/bits.deBruijn64tab"], plainKeys := false, apart := false, laid := [("math/bits.deBruijn32tab", laid_math_bits_deBruijn32tab), ("math/bits.deBruijn64tab", laid_math_bits_deBruijn64tab)], narrowed := true }
def BackKnownUptoSaid : Prop := backKnownUptoRow.holds Tryd.pinned (OpenSpec.upto backKnownSpec)

/-- 'hachurelaw12.BackTrue', WHERE WHAT IT READS IS OF BULK AT MOST 1048576: true; the input reads as it did. -/
def backTrueUptoRow : OpenClaim := { program := "ytkbpmcpmcmnfgaadoor", sum := "740c18b300392c065ba6549bae5a4aeb620e7d2588044f82b69d3fc82e893ee5", func := "hachure/hachurelaw12.BackTrue", spec := "backTrue", unfollowed := true, recurses := true, named := ["math/bits.deBruijn32tab", "math/bits.deBruijn64tab"], plainKeys := false, apart := false, laid := [("math/bits.deBruijn32tab", laid_math_bits_deBruijn32tab), ("math/bits.deBruijn64tab", laid_math_bits_deBruijn64tab)], narrowed := true }
def BackTrueUptoSaid : Prop := backTrueUptoRow.holds Tryd.pinned (OpenSpec.upto backTrueSpec)

/-- 'hachurelaw12.BackFewer', WHERE WHAT IT READS IS OF BULK AT MOST 1048576: true; the input reads as it did. -/
def backFewerUptoRow : OpenClaim := { program := "ytkbpmcpmcmnfgaadoor", sum := "740c18b300392c065ba6549bae5a4aeb620e7d2588044f82b69d3fc82e893ee5", func := "hachure/hachurelaw12.BackFewer", spec := "backFewer", unfollowed := true, recurses := true, named := ["math/bits.deBruijn32tab", "math/bits.deBruijn64tab"], plainKeys := false, apart := false, laid := [("math/bits.deBruijn32tab", laid_math_bits_deBruijn32tab), ("math/bits.deBruijn64tab", laid_math_bits_deBruijn64tab)], narrowed := true }
def BackFewerUptoSaid : Prop := backFewerUptoRow.holds Tryd.pinned (OpenSpec.upto backFewerSpec)

/-- 'hachurelaw12.BackNeeded', WHERE WHAT IT READS IS OF BULK AT MOST 1048576: true; the input reads as it did. -/
def backNeededUptoRow : OpenClaim := { program := "ytkbpmcpmcmnfgaadoor", sum := "740c18b300392c065ba6549bae5a4aeb620e7d2588044f82b69d3fc82e893ee5", func := "hachure/hachurelaw12.BackNeeded", spec := "backNeeded", unfollowed := true, recurses := true, named := ["math/bits.deBruijn32tab", "math/bits.deBruijn64tab"], plainKeys := false, apart := false, laid := [("math/bits.deBruijn32tab", laid_math_bits_deBruijn32tab), ("math/bits.deBruijn64tab", laid_math_bits_deBruijn64tab)], narrowed := true }
def BackNeededUptoSaid : Prop := backNeededUptoRow.holds Tryd.pinned (OpenSpec.upto backNeededSpec)

/-- 'hachurelaw12.BackMore', WHERE WHAT IT READS IS OF BULK AT MOST 1048576: true; the input reads as it did. -/
def backMoreUptoRow : OpenClaim := { program := "ytkbpmcpmcmnfgaadoor", sum := "740c18b300392c065ba6549bae5a4aeb620e7d2588044f82b69d3fc82e893ee5", func := "hachure/hachurelaw12.BackMore", spec := "backMore", unfollowed := true, recurses := true, named := ["math/bits.deBruijn32tab", "math/bits.deBruijn64tab"], plainKeys := false, apart := false, laid := [("math/bits.deBruijn32tab", laid_math_bits_deBruijn32tab), ("math/bits.deBruijn64tab", laid_math_bits_deBruijn64tab)], narrowed := true }
def BackMoreUptoSaid : Prop := backMoreUptoRow.holds Tryd.pinned (OpenSpec.upto backMoreSpec)

/-- 'hachurelaw12.BackAsked', WHERE WHAT IT READS IS OF BULK AT MOST 1048576: true; the input reads as it did. -/
def backAskedUptoRow : OpenClaim := { program := "ytkbpmcpmcmnfgaadoor", sum := "740c18b300392c065ba6549bae5a4aeb620e7d2588044f82b69d3fc82e893ee5", func := "hachure/hachurelaw12.BackAsked", spec := "backAsked", unfollowed := true, recurses := true, named := ["math/bits.deBruijn32tab", "math/bits.deBruijn64tab"], plainKeys := false, apart := false, laid := [("math/bits.deBruijn32tab", laid_math_bits_deBruijn32tab), ("math/bits.deBruijn64tab", laid_math_bits_deBruijn64tab)], narrowed := true }
def BackAskedUptoSaid : Prop := backAskedUptoRow.holds Tryd.pinned (OpenSpec.upto backAskedSpec)

/-- 'hachurelaw12.BackWrong', WHERE WHAT IT READS IS OF BULK AT MOST 1048576: true; the input reads as it did. -/
def backWrongUptoRow : OpenClaim := { program := "ytkbpmcpmcmnfgaadoor", sum := "740c18b300392c065ba6549bae5a4aeb620e7d2588044f82b69d3fc82e893ee5", func := "hachure/hachurelaw12.BackWrong", spec := "backWrong", unfollowed := true, recurses := true, named := ["math/bits.deBruijn32tab", "math/bits.deBruijn64tab"], plainKeys := false, apart := false, laid := [("math/bits.deBruijn32tab", laid_math_bits_deBruijn32tab), ("math/bits.deBruijn64tab", laid_math_bits_deBruijn64tab)], narrowed := true }
def BackWrongUptoSaid : Prop := backWrongUptoRow.holds Tryd.pinned (OpenSpec.upto backWrongSpec)

/-- 'hachurelaw12.BackLarger', WHERE WHAT IT READS IS OF BULK AT MOST 1048576: true; the input reads as it did. -/
def backLargerUptoRow : OpenClaim := { program := "ytkbpmcpmcmnfgaadoor", sum := "740c18b300392c065ba6549bae5a4aeb620e7d2588044f82b69d3fc82e893ee5", func := "hachure/hachurelaw12.BackLarger", spec := "backLarger", unfollowed := true, recurses := true, named := ["math/bits.deBruijn32tab", "math/bits.deBruijn64tab"], plainKeys := false, apart := false, laid := [("math/bits.deBruijn32tab", laid_math_bits_deBruijn32tab), ("math/bits.deBruijn64tab", laid_math_bits_deBruijn64tab)], narrowed := true }
def BackLargerUptoSaid : Prop := backLargerUptoRow.holds Tryd.pinned (OpenSpec.upto backLargerSpec)

/-- 'hachurelaw12.BackFurther', WHERE WHAT IT READS IS OF BULK AT MOST 1048576: true; the input reads as it did. -/
def backFurtherUptoRow : OpenClaim := { program := "ytkbpmcpmcmnfgaadoor", sum := "740c18b300392c065ba6549bae5a4aeb620e7d2588044f82b69d3fc82e893ee5", func := "hachure/hachurelaw12.BackFurther", spec := "backFurther", unfollowed := true, recurses := true, named := ["math/bits.deBruijn32tab", "math/bits.deBruijn64tab"], plainKeys := false, apart := false, laid := [("math/bits.deBruijn32tab", laid_math_bits_deBruijn32tab), ("math/bits.deBruijn64tab", laid_math_bits_deBruijn64tab)], narrowed := true }
def BackFurtherUptoSaid : Prop := backFurtherUptoRow.holds Tryd.pinned (OpenSpec.upto backFurtherSpec)

end Rows
end Go.Proofs.YtkbpmcpmcmnfgaaDoor
