/-
  No cell of these rows narrows 'for every input' (looked for: loops, veiled, ifaces, maps, wideKeys, modest, calm, conditions, laid).
  DERIVED. THE GIVEN ROWS OF THIS SEAT. 8 by the template 'for every input the law returns true; each argument reads behind the call as it read before'; 0 by the template 'total and deterministic' (their statements: YtnaadjhiahjlfaaTotals.lean).
  GIVEN WITH THE SEED: the statements are not yours to turn. If you find one false, say at which input.
  Laid BY PROGRAM, IN A SANDBOX (cutbox-rows.mjs): the forced cells as the released guide's own fill.sh prints them over the translation 636179bfef5d26a5… (all of the seat's roots in one cut). By AI agents, Wed Nov 11 2026. No macro, syntax, notation, axiom, sorry.
-/
import Derived.Test.YtnaadjhiahjlfaaChecked
import GoSem.Claim
import GoSem.ClaimJoined
import GoSem.ClaimMapViews
import Derived.JoinedTies
import Derived.KernelRfl
namespace Go.Proofs.Ytnaadjhiahjlfaa
/- THE CELL 'sum', in the pinned program and in every row, IS THE sha256 OF THE DUMP (.gsa) THAT YtnaadjhiahjlfaaProg.lean LOADS. Nothing in Lean hashes anything: it is a label: what it is worth is what the hold of that sum in a sandbox is worth. -/
noncomputable def Try.pinned : Pinned := { name := "ytnaadjhiahjlfaa", sum := "636179bfef5d26a5fb1b2507ba4fb74013010074cdef6b6d5fa3c01f2f1bdb94", checked := Try.checked }
namespace Rows
def none {H : Type} : Left H := { results := [], args := [] }

/-- 'hachurelaw08.TileOrder': WHATEVER THE INPUT: true; the input reads as it did. -/
def tileOrderSpec : ChangeSpec := { name := "tileOrder", fn := fun _ => fun
  | [d1, d2, d3] => { results := [.lit (.bool true)], args := [d1, d2, d3] }
  | _ => none }
def tileOrderRow : OpenClaim := { program := "ytnaadjhiahjlfaa", sum := "636179bfef5d26a5fb1b2507ba4fb74013010074cdef6b6d5fa3c01f2f1bdb94", func := "hachure/hachurelaw08.TileOrder", spec := "tileOrder", unfollowed := true, recurses := true, plainKeys := false, apart := false }
def TileOrderSaid : Prop := tileOrderRow.holds Try.pinned (OpenSpec.ofChange tileOrderSpec)

/-- ITS FALSE NEIGHBOUR: 'it returns false'. Refute it at one input. -/
def tileOrderWrong : ChangeSpec := { name := "tileOrder", fn := fun _ => fun
  | [d1, d2, d3] => { results := [.lit (.bool false)], args := [d1, d2, d3] }
  | _ => none }
def TileOrderWrongFalsely : Prop := tileOrderRow.holds Try.pinned (OpenSpec.ofChange tileOrderWrong)

/-- 'hachurelaw07.CastSizes': WHATEVER THE INPUT: true; the input reads as it did. -/
def castSizesSpec : ChangeSpec := { name := "castSizes", fn := fun _ => fun
  | [d1, d2, d3] => { results := [.lit (.bool true)], args := [d1, d2, d3] }
  | _ => none }
def castSizesRow : OpenClaim := { program := "ytnaadjhiahjlfaa", sum := "636179bfef5d26a5fb1b2507ba4fb74013010074cdef6b6d5fa3c01f2f1bdb94", func := "hachure/hachurelaw07.CastSizes", spec := "castSizes", unfollowed := true, recurses := true, plainKeys := false, apart := false }
def CastSizesSaid : Prop := castSizesRow.holds Try.pinned (OpenSpec.ofChange castSizesSpec)

/-- ITS FALSE NEIGHBOUR: 'it returns false'. Refute it at one input. -/
def castSizesWrong : ChangeSpec := { name := "castSizes", fn := fun _ => fun
  | [d1, d2, d3] => { results := [.lit (.bool false)], args := [d1, d2, d3] }
  | _ => none }
def CastSizesWrongFalsely : Prop := castSizesRow.holds Try.pinned (OpenSpec.ofChange castSizesWrong)

/-- 'hachurelaw07.CastFits': WHATEVER THE INPUT: true; the input reads as it did. -/
def castFitsSpec : ChangeSpec := { name := "castFits", fn := fun _ => fun
  | [d1, d2, d3] => { results := [.lit (.bool true)], args := [d1, d2, d3] }
  | _ => none }
def castFitsRow : OpenClaim := { program := "ytnaadjhiahjlfaa", sum := "636179bfef5d26a5fb1b2507ba4fb74013010074cdef6b6d5fa3c01f2f1bdb94", func := "hachure/hachurelaw07.CastFits", spec := "castFits", unfollowed := true, recurses := true, plainKeys := false, apart := false }
def CastFitsSaid : Prop := castFitsRow.holds Try.pinned (OpenSpec.ofChange castFitsSpec)

/-- ITS FALSE NEIGHBOUR: 'it returns false'. Refute it at one input. -/
def castFitsWrong : ChangeSpec := { name := "castFits", fn := fun _ => fun
  | [d1, d2, d3] => { results := [.lit (.bool false)], args := [d1, d2, d3] }
  | _ => none }
def CastFitsWrongFalsely : Prop := castFitsRow.holds Try.pinned (OpenSpec.ofChange castFitsWrong)

/-- 'hachurelaw07.CastKnown': WHATEVER THE INPUT: true; the input reads as it did. -/
def castKnownSpec : ChangeSpec := { name := "castKnown", fn := fun _ => fun
  | [] => { results := [.lit (.bool true)], args := [] }
  | _ => none }
def castKnownRow : OpenClaim := { program := "ytnaadjhiahjlfaa", sum := "636179bfef5d26a5fb1b2507ba4fb74013010074cdef6b6d5fa3c01f2f1bdb94", func := "hachure/hachurelaw07.CastKnown", spec := "castKnown", unfollowed := true, recurses := true, plainKeys := false, apart := false }
def CastKnownSaid : Prop := castKnownRow.holds Try.pinned (OpenSpec.ofChange castKnownSpec)

/-- ITS FALSE NEIGHBOUR: 'it returns false'. Refute it at one input. -/
def castKnownWrong : ChangeSpec := { name := "castKnown", fn := fun _ => fun
  | [] => { results := [.lit (.bool false)], args := [] }
  | _ => none }
def CastKnownWrongFalsely : Prop := castKnownRow.holds Try.pinned (OpenSpec.ofChange castKnownWrong)

/-- 'hachurelaw07.CastTrue': WHATEVER THE INPUT: true; the input reads as it did. -/
def castTrueSpec : ChangeSpec := { name := "castTrue", fn := fun _ => fun
  | [d1, d2] => { results := [.lit (.bool true)], args := [d1, d2] }
  | _ => none }
def castTrueRow : OpenClaim := { program := "ytnaadjhiahjlfaa", sum := "636179bfef5d26a5fb1b2507ba4fb74013010074cdef6b6d5fa3c01f2f1bdb94", func := "hachure/hachurelaw07.CastTrue", spec := "castTrue", unfollowed := true, recurses := true, plainKeys := false, apart := false }
def CastTrueSaid : Prop := castTrueRow.holds Try.pinned (OpenSpec.ofChange castTrueSpec)

/-- ITS FALSE NEIGHBOUR: 'it returns false'. Refute it at one input. -/
def castTrueWrong : ChangeSpec := { name := "castTrue", fn := fun _ => fun
  | [d1, d2] => { results := [.lit (.bool false)], args := [d1, d2] }
  | _ => none }
def CastTrueWrongFalsely : Prop := castTrueRow.holds Try.pinned (OpenSpec.ofChange castTrueWrong)

/-- 'hachurelaw07.CastReached': WHATEVER THE INPUT: true; the input reads as it did. -/
def castReachedSpec : ChangeSpec := { name := "castReached", fn := fun _ => fun
  | [d1, d2, d3] => { results := [.lit (.bool true)], args := [d1, d2, d3] }
  | _ => none }
def castReachedRow : OpenClaim := { program := "ytnaadjhiahjlfaa", sum := "636179bfef5d26a5fb1b2507ba4fb74013010074cdef6b6d5fa3c01f2f1bdb94", func := "hachure/hachurelaw07.CastReached", spec := "castReached", unfollowed := true, recurses := true, plainKeys := false, apart := false }
def CastReachedSaid : Prop := castReachedRow.holds Try.pinned (OpenSpec.ofChange castReachedSpec)

/-- ITS FALSE NEIGHBOUR: 'it returns false'. Refute it at one input. -/
def castReachedWrong : ChangeSpec := { name := "castReached", fn := fun _ => fun
  | [d1, d2, d3] => { results := [.lit (.bool false)], args := [d1, d2, d3] }
  | _ => none }
def CastReachedWrongFalsely : Prop := castReachedRow.holds Try.pinned (OpenSpec.ofChange castReachedWrong)

/-- 'hachurelaw07.CastFitting': WHATEVER THE INPUT: true; the input reads as it did. -/
def castFittingSpec : ChangeSpec := { name := "castFitting", fn := fun _ => fun
  | [d1, d2, d3] => { results := [.lit (.bool true)], args := [d1, d2, d3] }
  | _ => none }
def castFittingRow : OpenClaim := { program := "ytnaadjhiahjlfaa", sum := "636179bfef5d26a5fb1b2507ba4fb74013010074cdef6b6d5fa3c01f2f1bdb94", func := "hachure/hachurelaw07.CastFitting", spec := "castFitting", unfollowed := true, recurses := true, plainKeys := false, apart := false }
def CastFittingSaid : Prop := castFittingRow.holds Try.pinned (OpenSpec.ofChange castFittingSpec)

/-- ITS FALSE NEIGHBOUR: 'it returns false'. Refute it at one input. -/
def castFittingWrong : ChangeSpec := { name := "castFitting", fn := fun _ => fun
  | [d1, d2, d3] => { results := [.lit (.bool false)], args := [d1, d2, d3] }
  | _ => none }
def CastFittingWrongFalsely : Prop := castFittingRow.holds Try.pinned (OpenSpec.ofChange castFittingWrong)

/-- 'hachurelaw07.CastSome': WHATEVER THE INPUT: true; the input reads as it did. -/
def castSomeSpec : ChangeSpec := { name := "castSome", fn := fun _ => fun
  | [d1, d2, d3] => { results := [.lit (.bool true)], args := [d1, d2, d3] }
  | _ => none }
def castSomeRow : OpenClaim := { program := "ytnaadjhiahjlfaa", sum := "636179bfef5d26a5fb1b2507ba4fb74013010074cdef6b6d5fa3c01f2f1bdb94", func := "hachure/hachurelaw07.CastSome", spec := "castSome", unfollowed := true, recurses := true, plainKeys := false, apart := false }
def CastSomeSaid : Prop := castSomeRow.holds Try.pinned (OpenSpec.ofChange castSomeSpec)

/-- ITS FALSE NEIGHBOUR: 'it returns false'. Refute it at one input. -/
def castSomeWrong : ChangeSpec := { name := "castSome", fn := fun _ => fun
  | [d1, d2, d3] => { results := [.lit (.bool false)], args := [d1, d2, d3] }
  | _ => none }
def CastSomeWrongFalsely : Prop := castSomeRow.holds Try.pinned (OpenSpec.ofChange castSomeWrong)

/- THE SECOND FORM. 'bulk': how many values and letters a reading holds, each counted each time it is reached (what is shared counts as often as it is met; a slice's spare places count too). A statement '..UptoSaid' is the law's where the arguments, and the package variables that the reading takes, are together of bulk at most 1048576: NARROWER than '..Said'. Prove '..Said' where nothing that the law and all that it calls make is longer than what came in: it says more and counts as full. Else prove '..UptoSaid'. A law counts once. -/
mutual
def uptoBulk {H : Type} : DataW H → Nat
  | .lit (.string bytes) => bytes.length + 1
  | .lit _ => 1
  | .nil => 1
  | .ptr d => uptoBulk d + 1
  | .slice elems spare => uptoBulkAll elems + uptoBulkAll spare + 1
  | .agg parts => uptoBulkAll parts + 1
  | .iface _ d => uptoBulk d + 1
  | .map entries => uptoBulkEntries entries + 1
  | .held _ => 1
def uptoBulkAll {H : Type} : List (DataW H) → Nat
  | [] => 0
  | d :: r => uptoBulk d + uptoBulkAll r
def uptoBulkEntries {H : Type} : List (Lit × DataW H) → Nat
  | [] => 0
  | x :: r => uptoBulkEntry x + uptoBulkEntries r
def uptoBulkEntry {H : Type} : Lit × DataW H → Nat
  | (.string bytes, d) => bytes.length + uptoBulk d + 1
  | (_, d) => uptoBulk d + 1
 end
def uptoSmall : (H : Type) → List (DataW H) → Bool := fun _ ds => decide (uptoBulkAll ds ≤ 1048576)
def OpenSpec.upto (s : _root_.Go.ChangeSpec) : _root_.Go.OpenSpec := { _root_.Go.OpenSpec.ofChange s with cond := some uptoSmall }

/-- 'hachurelaw08.TileOrder', WHERE WHAT IT READS IS OF BULK AT MOST 1048576: true; the input reads as it did. -/
def tileOrderUptoRow : OpenClaim := { program := "ytnaadjhiahjlfaa", sum := "636179bfef5d26a5fb1b2507ba4fb74013010074cdef6b6d5fa3c01f2f1bdb94", func := "hachure/hachurelaw08.TileOrder", spec := "tileOrder", unfollowed := true, recurses := true, plainKeys := false, apart := false, narrowed := true }
def TileOrderUptoSaid : Prop := tileOrderUptoRow.holds Try.pinned (OpenSpec.upto tileOrderSpec)

/-- 'hachurelaw07.CastSizes', WHERE WHAT IT READS IS OF BULK AT MOST 1048576: true; the input reads as it did. -/
def castSizesUptoRow : OpenClaim := { program := "ytnaadjhiahjlfaa", sum := "636179bfef5d26a5fb1b2507ba4fb74013010074cdef6b6d5fa3c01f2f1bdb94", func := "hachure/hachurelaw07.CastSizes", spec := "castSizes", unfollowed := true, recurses := true, plainKeys := false, apart := false, narrowed := true }
def CastSizesUptoSaid : Prop := castSizesUptoRow.holds Try.pinned (OpenSpec.upto castSizesSpec)

/-- 'hachurelaw07.CastFits', WHERE WHAT IT READS IS OF BULK AT MOST 1048576: true; the input reads as it did. -/
def castFitsUptoRow : OpenClaim := { program := "ytnaadjhiahjlfaa", sum := "636179bfef5d26a5fb1b2507ba4fb74013010074cdef6b6d5fa3c01f2f1bdb94", func := "hachure/hachurelaw07.CastFits", spec := "castFits", unfollowed := true, recurses := true, plainKeys := false, apart := false, narrowed := true }
def CastFitsUptoSaid : Prop := castFitsUptoRow.holds Try.pinned (OpenSpec.upto castFitsSpec)

/-- 'hachurelaw07.CastKnown', WHERE WHAT IT READS IS OF BULK AT MOST 1048576: true; the input reads as it did. -/
def castKnownUptoRow : OpenClaim := { program := "ytnaadjhiahjlfaa", sum := "636179bfef5d26a5fb1b2507ba4fb74013010074cdef6b6d5fa3c01f2f1bdb94", func := "hachure/hachurelaw07.CastKnown", spec := "castKnown", unfollowed := true, recurses := true, plainKeys := false, apart := false, narrowed := true }
def CastKnownUptoSaid : Prop := castKnownUptoRow.holds Try.pinned (OpenSpec.upto castKnownSpec)

/-- 'hachurelaw07.CastTrue', WHERE WHAT IT READS IS OF BULK AT MOST 1048576: true; the input reads as it did. -/
def castTrueUptoRow : OpenClaim := { program := "ytnaadjhiahjlfaa", sum := "636179bfef5d26a5fb1b2507ba4fb74013010074cdef6b6d5fa3c01f2f1bdb94", func := "hachure/hachurelaw07.CastTrue", spec := "castTrue", unfollowed := true, recurses := true, plainKeys := false, apart := false, narrowed := true }
def CastTrueUptoSaid : Prop := castTrueUptoRow.holds Try.pinned (OpenSpec.upto castTrueSpec)

/-- 'hachurelaw07.CastReached', WHERE WHAT IT READS IS OF BULK AT MOST 1048576: true; the input reads as it did. -/
def castReachedUptoRow : OpenClaim := { program := "ytnaadjhiahjlfaa", sum := "636179bfef5d26a5fb1b2507ba4fb74013010074cdef6b6d5fa3c01f2f1bdb94", func := "hachure/hachurelaw07.CastReached", spec := "castReached", unfollowed := true, recurses := true, plainKeys := false, apart := false, narrowed := true }
def CastReachedUptoSaid : Prop := castReachedUptoRow.holds Try.pinned (OpenSpec.upto castReachedSpec)

/-- 'hachurelaw07.CastFitting', WHERE WHAT IT READS IS OF BULK AT MOST 1048576: true; the input reads as it did. -/
def castFittingUptoRow : OpenClaim := { program := "ytnaadjhiahjlfaa", sum := "636179bfef5d26a5fb1b2507ba4fb74013010074cdef6b6d5fa3c01f2f1bdb94", func := "hachure/hachurelaw07.CastFitting", spec := "castFitting", unfollowed := true, recurses := true, plainKeys := false, apart := false, narrowed := true }
def CastFittingUptoSaid : Prop := castFittingUptoRow.holds Try.pinned (OpenSpec.upto castFittingSpec)

/-- 'hachurelaw07.CastSome', WHERE WHAT IT READS IS OF BULK AT MOST 1048576: true; the input reads as it did. -/
def castSomeUptoRow : OpenClaim := { program := "ytnaadjhiahjlfaa", sum := "636179bfef5d26a5fb1b2507ba4fb74013010074cdef6b6d5fa3c01f2f1bdb94", func := "hachure/hachurelaw07.CastSome", spec := "castSome", unfollowed := true, recurses := true, plainKeys := false, apart := false, narrowed := true }
def CastSomeUptoSaid : Prop := castSomeUptoRow.holds Try.pinned (OpenSpec.upto castSomeSpec)

end Rows
end Go.Proofs.Ytnaadjhiahjlfaa
