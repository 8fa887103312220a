/-
  No cell of these rows narrows 'for every input' (looked for: loops, veiled, ifaces, maps, wideKeys, modest, calm, conditions, laid).
  DERIVED. THE GIVEN ROWS OF THIS SEAT. 12 by the template 'for every input the law returns true; each argument reads behind the call as it read before'; 0 by the template 'total and deterministic' (their statements: YtpbimgafafkjgaaTotals.lean).
  GIVEN WITH THE SEED: the statements are not yours to turn. If you find one false, say at which input.
  Laid BY PROGRAM, IN A SANDBOX (cutbox-rows.mjs): the forced cells as the released guide's own fill.sh prints them over the translation 8836265dde032275… (all of the seat's roots in one cut). By AI agents, Wed Nov 11 2026. No macro, syntax, notation, axiom, sorry.
-/
import Derived.Test.YtpbimgafafkjgaaChecked
import GoSem.Claim
import GoSem.ClaimJoined
import GoSem.ClaimMapViews
import Derived.JoinedTies
import Derived.KernelRfl
namespace Go.Proofs.Ytpbimgafafkjgaa
/- THE CELL 'sum', in the pinned program and in every row, IS THE sha256 OF THE DUMP (.gsa) THAT YtpbimgafafkjgaaProg.lean LOADS. Nothing in Lean hashes anything: it is a label: what it is worth is what the hold of that sum in a sandbox is worth. -/
noncomputable def Try.pinned : Pinned := { name := "ytpbimgafafkjgaa", sum := "8836265dde0322754dabbb9de0f208dc44712fd82314edcaedf7b27ec2fb1ba2", checked := Try.checked }
namespace Rows
def none {H : Type} : Left H := { results := [], args := [] }

/-- 'hachurelaw08.TileWidths': WHATEVER THE INPUT: true; the input reads as it did. -/
def tileWidthsSpec : ChangeSpec := { name := "tileWidths", fn := fun _ => fun
  | [d1, d2, d3] => { results := [.lit (.bool true)], args := [d1, d2, d3] }
  | _ => none }
def tileWidthsRow : OpenClaim := { program := "ytpbimgafafkjgaa", sum := "8836265dde0322754dabbb9de0f208dc44712fd82314edcaedf7b27ec2fb1ba2", func := "hachure/hachurelaw08.TileWidths", spec := "tileWidths", unfollowed := true, recurses := true, apart := false }
def TileWidthsSaid : Prop := tileWidthsRow.holds Try.pinned (OpenSpec.ofChange tileWidthsSpec)

/-- ITS FALSE NEIGHBOUR: 'it returns false'. Refute it at one input. -/
def tileWidthsWrong : ChangeSpec := { name := "tileWidths", fn := fun _ => fun
  | [d1, d2, d3] => { results := [.lit (.bool false)], args := [d1, d2, d3] }
  | _ => none }
def TileWidthsWrongFalsely : Prop := tileWidthsRow.holds Try.pinned (OpenSpec.ofChange tileWidthsWrong)

/-- 'hachurelaw08.TileGaps': WHATEVER THE INPUT: true; the input reads as it did. -/
def tileGapsSpec : ChangeSpec := { name := "tileGaps", fn := fun _ => fun
  | [d1, d2, d3] => { results := [.lit (.bool true)], args := [d1, d2, d3] }
  | _ => none }
def tileGapsRow : OpenClaim := { program := "ytpbimgafafkjgaa", sum := "8836265dde0322754dabbb9de0f208dc44712fd82314edcaedf7b27ec2fb1ba2", func := "hachure/hachurelaw08.TileGaps", spec := "tileGaps", unfollowed := true, recurses := true, apart := false }
def TileGapsSaid : Prop := tileGapsRow.holds Try.pinned (OpenSpec.ofChange tileGapsSpec)

/-- ITS FALSE NEIGHBOUR: 'it returns false'. Refute it at one input. -/
def tileGapsWrong : ChangeSpec := { name := "tileGaps", fn := fun _ => fun
  | [d1, d2, d3] => { results := [.lit (.bool false)], args := [d1, d2, d3] }
  | _ => none }
def TileGapsWrongFalsely : Prop := tileGapsRow.holds Try.pinned (OpenSpec.ofChange tileGapsWrong)

/-- 'hachurelaw08.TileLays': WHATEVER THE INPUT: true; the input reads as it did. -/
def tileLaysSpec : ChangeSpec := { name := "tileLays", fn := fun _ => fun
  | [d1, d2] => { results := [.lit (.bool true)], args := [d1, d2] }
  | _ => none }
def tileLaysRow : OpenClaim := { program := "ytpbimgafafkjgaa", sum := "8836265dde0322754dabbb9de0f208dc44712fd82314edcaedf7b27ec2fb1ba2", func := "hachure/hachurelaw08.TileLays", spec := "tileLays", unfollowed := true, recurses := true, apart := false }
def TileLaysSaid : Prop := tileLaysRow.holds Try.pinned (OpenSpec.ofChange tileLaysSpec)

/-- ITS FALSE NEIGHBOUR: 'it returns false'. Refute it at one input. -/
def tileLaysWrong : ChangeSpec := { name := "tileLays", fn := fun _ => fun
  | [d1, d2] => { results := [.lit (.bool false)], args := [d1, d2] }
  | _ => none }
def TileLaysWrongFalsely : Prop := tileLaysRow.holds Try.pinned (OpenSpec.ofChange tileLaysWrong)

/-- 'hachurelaw08.TileKnown': WHATEVER THE INPUT: true; the input reads as it did. -/
def tileKnownSpec : ChangeSpec := { name := "tileKnown", fn := fun _ => fun
  | [] => { results := [.lit (.bool true)], args := [] }
  | _ => none }
def tileKnownRow : OpenClaim := { program := "ytpbimgafafkjgaa", sum := "8836265dde0322754dabbb9de0f208dc44712fd82314edcaedf7b27ec2fb1ba2", func := "hachure/hachurelaw08.TileKnown", spec := "tileKnown", unfollowed := true, recurses := true, apart := false }
def TileKnownSaid : Prop := tileKnownRow.holds Try.pinned (OpenSpec.ofChange tileKnownSpec)

/-- ITS FALSE NEIGHBOUR: 'it returns false'. Refute it at one input. -/
def tileKnownWrong : ChangeSpec := { name := "tileKnown", fn := fun _ => fun
  | [] => { results := [.lit (.bool false)], args := [] }
  | _ => none }
def TileKnownWrongFalsely : Prop := tileKnownRow.holds Try.pinned (OpenSpec.ofChange tileKnownWrong)

/-- 'hachurelaw08.TileTrue': WHATEVER THE INPUT: true; the input reads as it did. -/
def tileTrueSpec : ChangeSpec := { name := "tileTrue", fn := fun _ => fun
  | [d1, d2, d3] => { results := [.lit (.bool true)], args := [d1, d2, d3] }
  | _ => none }
def tileTrueRow : OpenClaim := { program := "ytpbimgafafkjgaa", sum := "8836265dde0322754dabbb9de0f208dc44712fd82314edcaedf7b27ec2fb1ba2", func := "hachure/hachurelaw08.TileTrue", spec := "tileTrue", unfollowed := true, recurses := true, apart := false }
def TileTrueSaid : Prop := tileTrueRow.holds Try.pinned (OpenSpec.ofChange tileTrueSpec)

/-- ITS FALSE NEIGHBOUR: 'it returns false'. Refute it at one input. -/
def tileTrueWrong : ChangeSpec := { name := "tileTrue", fn := fun _ => fun
  | [d1, d2, d3] => { results := [.lit (.bool false)], args := [d1, d2, d3] }
  | _ => none }
def TileTrueWrongFalsely : Prop := tileTrueRow.holds Try.pinned (OpenSpec.ofChange tileTrueWrong)

/-- 'hachurelaw08.TileReached': WHATEVER THE INPUT: true; the input reads as it did. -/
def tileReachedSpec : ChangeSpec := { name := "tileReached", fn := fun _ => fun
  | [d1, d2, d3] => { results := [.lit (.bool true)], args := [d1, d2, d3] }
  | _ => none }
def tileReachedRow : OpenClaim := { program := "ytpbimgafafkjgaa", sum := "8836265dde0322754dabbb9de0f208dc44712fd82314edcaedf7b27ec2fb1ba2", func := "hachure/hachurelaw08.TileReached", spec := "tileReached", unfollowed := true, recurses := true, apart := false }
def TileReachedSaid : Prop := tileReachedRow.holds Try.pinned (OpenSpec.ofChange tileReachedSpec)

/-- ITS FALSE NEIGHBOUR: 'it returns false'. Refute it at one input. -/
def tileReachedWrong : ChangeSpec := { name := "tileReached", fn := fun _ => fun
  | [d1, d2, d3] => { results := [.lit (.bool false)], args := [d1, d2, d3] }
  | _ => none }
def TileReachedWrongFalsely : Prop := tileReachedRow.holds Try.pinned (OpenSpec.ofChange tileReachedWrong)

/-- 'hachurelaw08.TileShown': WHATEVER THE INPUT: true; the input reads as it did. -/
def tileShownSpec : ChangeSpec := { name := "tileShown", fn := fun _ => fun
  | [d1, d2, d3] => { results := [.lit (.bool true)], args := [d1, d2, d3] }
  | _ => none }
def tileShownRow : OpenClaim := { program := "ytpbimgafafkjgaa", sum := "8836265dde0322754dabbb9de0f208dc44712fd82314edcaedf7b27ec2fb1ba2", func := "hachure/hachurelaw08.TileShown", spec := "tileShown", unfollowed := true, recurses := true, apart := false }
def TileShownSaid : Prop := tileShownRow.holds Try.pinned (OpenSpec.ofChange tileShownSpec)

/-- ITS FALSE NEIGHBOUR: 'it returns false'. Refute it at one input. -/
def tileShownWrong : ChangeSpec := { name := "tileShown", fn := fun _ => fun
  | [d1, d2, d3] => { results := [.lit (.bool false)], args := [d1, d2, d3] }
  | _ => none }
def TileShownWrongFalsely : Prop := tileShownRow.holds Try.pinned (OpenSpec.ofChange tileShownWrong)

/-- 'hachurelaw08.TileLaid': WHATEVER THE INPUT: true; the input reads as it did. -/
def tileLaidSpec : ChangeSpec := { name := "tileLaid", fn := fun _ => fun
  | [d1, d2, d3] => { results := [.lit (.bool true)], args := [d1, d2, d3] }
  | _ => none }
def tileLaidRow : OpenClaim := { program := "ytpbimgafafkjgaa", sum := "8836265dde0322754dabbb9de0f208dc44712fd82314edcaedf7b27ec2fb1ba2", func := "hachure/hachurelaw08.TileLaid", spec := "tileLaid", unfollowed := true, recurses := true, apart := false }
def TileLaidSaid : Prop := tileLaidRow.holds Try.pinned (OpenSpec.ofChange tileLaidSpec)

/-- ITS FALSE NEIGHBOUR: 'it returns false'. Refute it at one input. -/
def tileLaidWrong : ChangeSpec := { name := "tileLaid", fn := fun _ => fun
  | [d1, d2, d3] => { results := [.lit (.bool false)], args := [d1, d2, d3] }
  | _ => none }
def TileLaidWrongFalsely : Prop := tileLaidRow.holds Try.pinned (OpenSpec.ofChange tileLaidWrong)

/-- 'hachurelaw08.TileMust': WHATEVER THE INPUT: true; the input reads as it did. -/
def tileMustSpec : ChangeSpec := { name := "tileMust", fn := fun _ => fun
  | [d1, d2, d3] => { results := [.lit (.bool true)], args := [d1, d2, d3] }
  | _ => none }
def tileMustRow : OpenClaim := { program := "ytpbimgafafkjgaa", sum := "8836265dde0322754dabbb9de0f208dc44712fd82314edcaedf7b27ec2fb1ba2", func := "hachure/hachurelaw08.TileMust", spec := "tileMust", unfollowed := true, recurses := true, apart := false }
def TileMustSaid : Prop := tileMustRow.holds Try.pinned (OpenSpec.ofChange tileMustSpec)

/-- ITS FALSE NEIGHBOUR: 'it returns false'. Refute it at one input. -/
def tileMustWrong : ChangeSpec := { name := "tileMust", fn := fun _ => fun
  | [d1, d2, d3] => { results := [.lit (.bool false)], args := [d1, d2, d3] }
  | _ => none }
def TileMustWrongFalsely : Prop := tileMustRow.holds Try.pinned (OpenSpec.ofChange tileMustWrong)

/-- 'hachurelaw08.TileAir': WHATEVER THE INPUT: true; the input reads as it did. -/
def tileAirSpec : ChangeSpec := { name := "tileAir", fn := fun _ => fun
  | [d1, d2, d3] => { results := [.lit (.bool true)], args := [d1, d2, d3] }
  | _ => none }
def tileAirRow : OpenClaim := { program := "ytpbimgafafkjgaa", sum := "8836265dde0322754dabbb9de0f208dc44712fd82314edcaedf7b27ec2fb1ba2", func := "hachure/hachurelaw08.TileAir", spec := "tileAir", unfollowed := true, recurses := true, apart := false }
def TileAirSaid : Prop := tileAirRow.holds Try.pinned (OpenSpec.ofChange tileAirSpec)

/-- ITS FALSE NEIGHBOUR: 'it returns false'. Refute it at one input. -/
def tileAirWrong : ChangeSpec := { name := "tileAir", fn := fun _ => fun
  | [d1, d2, d3] => { results := [.lit (.bool false)], args := [d1, d2, d3] }
  | _ => none }
def TileAirWrongFalsely : Prop := tileAirRow.holds Try.pinned (OpenSpec.ofChange tileAirWrong)

/-- 'hachurelaw08.TileMore': WHATEVER THE INPUT: true; the input reads as it did. -/
def tileMoreSpec : ChangeSpec := { name := "tileMore", fn := fun _ => fun
  | [d1, d2, d3] => { results := [.lit (.bool true)], args := [d1, d2, d3] }
  | _ => none }
def tileMoreRow : OpenClaim := { program := "ytpbimgafafkjgaa", sum := "8836265dde0322754dabbb9de0f208dc44712fd82314edcaedf7b27ec2fb1ba2", func := "hachure/hachurelaw08.TileMore", spec := "tileMore", unfollowed := true, recurses := true, apart := false }
def TileMoreSaid : Prop := tileMoreRow.holds Try.pinned (OpenSpec.ofChange tileMoreSpec)

/-- ITS FALSE NEIGHBOUR: 'it returns false'. Refute it at one input. -/
def tileMoreWrong : ChangeSpec := { name := "tileMore", fn := fun _ => fun
  | [d1, d2, d3] => { results := [.lit (.bool false)], args := [d1, d2, d3] }
  | _ => none }
def TileMoreWrongFalsely : Prop := tileMoreRow.holds Try.pinned (OpenSpec.ofChange tileMoreWrong)

/-- 'hachurelaw08.TileDrier': WHATEVER THE INPUT: true; the input reads as it did. -/
def tileDrierSpec : ChangeSpec := { name := "tileDrier", fn := fun _ => fun
  | [d1, d2, d3] => { results := [.lit (.bool true)], args := [d1, d2, d3] }
  | _ => none }
def tileDrierRow : OpenClaim := { program := "ytpbimgafafkjgaa", sum := "8836265dde0322754dabbb9de0f208dc44712fd82314edcaedf7b27ec2fb1ba2", func := "hachure/hachurelaw08.TileDrier", spec := "tileDrier", unfollowed := true, recurses := true, apart := false }
def TileDrierSaid : Prop := tileDrierRow.holds Try.pinned (OpenSpec.ofChange tileDrierSpec)

/-- ITS FALSE NEIGHBOUR: 'it returns false'. Refute it at one input. -/
def tileDrierWrong : ChangeSpec := { name := "tileDrier", fn := fun _ => fun
  | [d1, d2, d3] => { results := [.lit (.bool false)], args := [d1, d2, d3] }
  | _ => none }
def TileDrierWrongFalsely : Prop := tileDrierRow.holds Try.pinned (OpenSpec.ofChange tileDrierWrong)

/- THE SECOND FORM. 'bulk': how many values and letters a reading holds, each counted each time it is reached (what is shared counts as often as it is met; a slice's spare places count too). A statement '..UptoSaid' is the law's where the arguments, and the package variables that the reading takes, are together of bulk at most 1048576: NARROWER than '..Said'. Prove '..Said' where nothing that the law and all that it calls make is longer than what came in: it says more and counts as full. Else prove '..UptoSaid'. A law counts once. -/
mutual
def uptoBulk {H : Type} : DataW H → Nat
  | .lit (.string bytes) => bytes.length + 1
  | .lit _ => 1
  | .nil => 1
  | .ptr d => uptoBulk d + 1
  | .slice elems spare => uptoBulkAll elems + uptoBulkAll spare + 1
  | .agg parts => uptoBulkAll parts + 1
  | .iface _ d => uptoBulk d + 1
  | .map entries => uptoBulkEntries entries + 1
  | .held _ => 1
def uptoBulkAll {H : Type} : List (DataW H) → Nat
  | [] => 0
  | d :: r => uptoBulk d + uptoBulkAll r
def uptoBulkEntries {H : Type} : List (Lit × DataW H) → Nat
  | [] => 0
  | x :: r => uptoBulkEntry x + uptoBulkEntries r
def uptoBulkEntry {H : Type} : Lit × DataW H → Nat
  | (.string bytes, d) => bytes.length + uptoBulk d + 1
  | (_, d) => uptoBulk d + 1
 end
def uptoSmall : (H : Type) → List (DataW H) → Bool := fun _ ds => decide (uptoBulkAll ds ≤ 1048576)
def OpenSpec.upto (s : _root_.Go.ChangeSpec) : _root_.Go.OpenSpec := { _root_.Go.OpenSpec.ofChange s with cond := some uptoSmall }

/-- 'hachurelaw08.TileWidths', WHERE WHAT IT READS IS OF BULK AT MOST 1048576: true; the input reads as it did. -/
def tileWidthsUptoRow : OpenClaim := { program := "ytpbimgafafkjgaa", sum := "8836265dde0322754dabbb9de0f208dc44712fd82314edcaedf7b27ec2fb1ba2", func := "hachure/hachurelaw08.TileWidths", spec := "tileWidths", unfollowed := true, recurses := true, apart := false, narrowed := true }
def TileWidthsUptoSaid : Prop := tileWidthsUptoRow.holds Try.pinned (OpenSpec.upto tileWidthsSpec)

/-- 'hachurelaw08.TileGaps', WHERE WHAT IT READS IS OF BULK AT MOST 1048576: true; the input reads as it did. -/
def tileGapsUptoRow : OpenClaim := { program := "ytpbimgafafkjgaa", sum := "8836265dde0322754dabbb9de0f208dc44712fd82314edcaedf7b27ec2fb1ba2", func := "hachure/hachurelaw08.TileGaps", spec := "tileGaps", unfollowed := true, recurses := true, apart := false, narrowed := true }
def TileGapsUptoSaid : Prop := tileGapsUptoRow.holds Try.pinned (OpenSpec.upto tileGapsSpec)

/-- 'hachurelaw08.TileLays', WHERE WHAT IT READS IS OF BULK AT MOST 1048576: true; the input reads as it did. -/
def tileLaysUptoRow : OpenClaim := { program := "ytpbimgafafkjgaa", sum := "8836265dde0322754dabbb9de0f208dc44712fd82314edcaedf7b27ec2fb1ba2", func := "hachure/hachurelaw08.TileLays", spec := "tileLays", unfollowed := true, recurses := true, apart := false, narrowed := true }
def TileLaysUptoSaid : Prop := tileLaysUptoRow.holds Try.pinned (OpenSpec.upto tileLaysSpec)

/-- 'hachurelaw08.TileKnown', WHERE WHAT IT READS IS OF BULK AT MOST 1048576: true; the input reads as it did. -/
def tileKnownUptoRow : OpenClaim := { program := "ytpbimgafafkjgaa", sum := "8836265dde0322754dabbb9de0f208dc44712fd82314edcaedf7b27ec2fb1ba2", func := "hachure/hachurelaw08.TileKnown", spec := "tileKnown", unfollowed := true, recurses := true, apart := false, narrowed := true }
def TileKnownUptoSaid : Prop := tileKnownUptoRow.holds Try.pinned (OpenSpec.upto tileKnownSpec)

/-- 'hachurelaw08.TileTrue', WHERE WHAT IT READS IS OF BULK AT MOST 1048576: true; the input reads as it did. -/
def tileTrueUptoRow : OpenClaim := { program := "ytpbimgafafkjgaa", sum := "8836265dde0322754dabbb9de0f208dc44712fd82314edcaedf7b27ec2fb1ba2", func := "hachure/hachurelaw08.TileTrue", spec := "tileTrue", unfollowed := true, recurses := true, apart := false, narrowed := true }
def TileTrueUptoSaid : Prop := tileTrueUptoRow.holds Try.pinned (OpenSpec.upto tileTrueSpec)

/-- 'hachurelaw08.TileReached', WHERE WHAT IT READS IS OF BULK AT MOST 1048576: true; the input reads as it did. -/
def tileReachedUptoRow : OpenClaim := { program := "ytpbimgafafkjgaa", sum := "8836265dde0322754dabbb9de0f208dc44712fd82314edcaedf7b27ec2fb1ba2", func := "hachure/hachurelaw08.TileReached", spec := "tileReached", unfollowed := true, recurses := true, apart := false, narrowed := true }
def TileReachedUptoSaid : Prop := tileReachedUptoRow.holds Try.pinned (OpenSpec.upto tileReachedSpec)

/-- 'hachurelaw08.TileShown', WHERE WHAT IT READS IS OF BULK AT MOST 1048576: true; the input reads as it did. -/
def tileShownUptoRow : OpenClaim := { program := "ytpbimgafafkjgaa", sum := "8836265dde0322754dabbb9de0f208dc44712fd82314edcaedf7b27ec2fb1ba2", func := "hachure/hachurelaw08.TileShown", spec := "tileShown", unfollowed := true, recurses := true, apart := false, narrowed := true }
def TileShownUptoSaid : Prop := tileShownUptoRow.holds Try.pinned (OpenSpec.upto tileShownSpec)

/-- 'hachurelaw08.TileLaid', WHERE WHAT IT READS IS OF BULK AT MOST 1048576: true; the input reads as it did. -/
def tileLaidUptoRow : OpenClaim := { program := "ytpbimgafafkjgaa", sum := "8836265dde0322754dabbb9de0f208dc44712fd82314edcaedf7b27ec2fb1ba2", func := "hachure/hachurelaw08.TileLaid", spec := "tileLaid", unfollowed := true, recurses := true, apart := false, narrowed := true }
def TileLaidUptoSaid : Prop := tileLaidUptoRow.holds Try.pinned (OpenSpec.upto tileLaidSpec)

/-- 'hachurelaw08.TileMust', WHERE WHAT IT READS IS OF BULK AT MOST 1048576: true; the input reads as it did. -/
def tileMustUptoRow : OpenClaim := { program := "ytpbimgafafkjgaa", sum := "8836265dde0322754dabbb9de0f208dc44712fd82314edcaedf7b27ec2fb1ba2", func := "hachure/hachurelaw08.TileMust", spec := "tileMust", unfollowed := true, recurses := true, apart := false, narrowed := true }
def TileMustUptoSaid : Prop := tileMustUptoRow.holds Try.pinned (OpenSpec.upto tileMustSpec)

/-- 'hachurelaw08.TileAir', WHERE WHAT IT READS IS OF BULK AT MOST 1048576: true; the input reads as it did. -/
def tileAirUptoRow : OpenClaim := { program := "ytpbimgafafkjgaa", sum := "8836265dde0322754dabbb9de0f208dc44712fd82314edcaedf7b27ec2fb1ba2", func := "hachure/hachurelaw08.TileAir", spec := "tileAir", unfollowed := true, recurses := true, apart := false, narrowed := true }
def TileAirUptoSaid : Prop := tileAirUptoRow.holds Try.pinned (OpenSpec.upto tileAirSpec)

/-- 'hachurelaw08.TileMore', WHERE WHAT IT READS IS OF BULK AT MOST 1048576: true; the input reads as it did. -/
def tileMoreUptoRow : OpenClaim := { program := "ytpbimgafafkjgaa", sum := "8836265dde0322754dabbb9de0f208dc44712fd82314edcaedf7b27ec2fb1ba2", func := "hachure/hachurelaw08.TileMore", spec := "tileMore", unfollowed := true, recurses := true, apart := false, narrowed := true }
def TileMoreUptoSaid : Prop := tileMoreUptoRow.holds Try.pinned (OpenSpec.upto tileMoreSpec)

/-- 'hachurelaw08.TileDrier', WHERE WHAT IT READS IS OF BULK AT MOST 1048576: true; the input reads as it did. -/
def tileDrierUptoRow : OpenClaim := { program := "ytpbimgafafkjgaa", sum := "8836265dde0322754dabbb9de0f208dc44712fd82314edcaedf7b27ec2fb1ba2", func := "hachure/hachurelaw08.TileDrier", spec := "tileDrier", unfollowed := true, recurses := true, apart := false, narrowed := true }
def TileDrierUptoSaid : Prop := tileDrierUptoRow.holds Try.pinned (OpenSpec.upto tileDrierSpec)

end Rows
end Go.Proofs.Ytpbimgafafkjgaa
