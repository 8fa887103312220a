/-
  No cell of these rows narrows 'for every input' (looked for: loops, veiled, ifaces, maps, wideKeys, modest, calm, conditions, laid).
  DERIVED. THE GIVEN ROWS OF THIS SEAT. 4 by the template 'for every input the law returns true; each argument reads behind the call as it read before'; 0 by the template 'total and deterministic' (their statements: YtpdldmichpmgmaaGreatTotals.lean).
  GIVEN WITH THE SEED: the statements are not yours to turn. If you find one false, say at which input.
  Laid BY PROGRAM, IN A SANDBOX (cutbox-rows.mjs): the forced cells as the released guide's own fill.sh prints them over the translation c6045b809a6e11b3… (all of the seat's roots in one cut). By AI agents, Wed Nov 11 2026. No macro, syntax, notation, axiom, sorry.
-/
import Derived.Test.YtpdldmichpmgmaaGreatChecked
import GoSem.Claim
import GoSem.ClaimJoined
import GoSem.ClaimMapViews
import Derived.JoinedTies
import Derived.KernelRfl
namespace Go.Proofs.YtpdldmichpmgmaaGreat
/- THE CELL 'sum', in the pinned program and in every row, IS THE sha256 OF THE DUMP (.gsa) THAT YtpdldmichpmgmaaGreatProg.lean LOADS. Nothing in Lean hashes anything: it is a label: what it is worth is what the hold of that sum in a sandbox is worth. -/
noncomputable def Tryz.pinned : Pinned := { name := "ytpdldmichpmgmaagreat", sum := "c6045b809a6e11b341a9116d4d491c2cd813070c7b32180bb9f27847f07a10f7", checked := Tryz.checked }
namespace Rows
def none {H : Type} : Left H := { results := [], args := [] }

/-- 'hachurelaw07.CastPlans': WHATEVER THE INPUT: true; the input reads as it did. -/
def castPlansSpec : ChangeSpec := { name := "castPlans", fn := fun _ => fun
  | [d1, d2, d3] => { results := [.lit (.bool true)], args := [d1, d2, d3] }
  | _ => none }
def castPlansRow : OpenClaim := { program := "ytpdldmichpmgmaagreat", sum := "c6045b809a6e11b341a9116d4d491c2cd813070c7b32180bb9f27847f07a10f7", func := "hachure/hachurelaw07.CastPlans", spec := "castPlans", unfollowed := true, recurses := true, plainKeys := false, apart := false }
def CastPlansSaid : Prop := castPlansRow.holds Tryz.pinned (OpenSpec.ofChange castPlansSpec)

/-- ITS FALSE NEIGHBOUR: 'it returns false'. Refute it at one input. -/
def castPlansWrong : ChangeSpec := { name := "castPlans", fn := fun _ => fun
  | [d1, d2, d3] => { results := [.lit (.bool false)], args := [d1, d2, d3] }
  | _ => none }
def CastPlansWrongFalsely : Prop := castPlansRow.holds Tryz.pinned (OpenSpec.ofChange castPlansWrong)

/-- 'hachurelaw07.CastPlanned': WHATEVER THE INPUT: true; the input reads as it did. -/
def castPlannedSpec : ChangeSpec := { name := "castPlanned", fn := fun _ => fun
  | [d1, d2] => { results := [.lit (.bool true)], args := [d1, d2] }
  | _ => none }
def castPlannedRow : OpenClaim := { program := "ytpdldmichpmgmaagreat", sum := "c6045b809a6e11b341a9116d4d491c2cd813070c7b32180bb9f27847f07a10f7", func := "hachure/hachurelaw07.CastPlanned", spec := "castPlanned", unfollowed := true, recurses := true, plainKeys := false, apart := false }
def CastPlannedSaid : Prop := castPlannedRow.holds Tryz.pinned (OpenSpec.ofChange castPlannedSpec)

/-- ITS FALSE NEIGHBOUR: 'it returns false'. Refute it at one input. -/
def castPlannedWrong : ChangeSpec := { name := "castPlanned", fn := fun _ => fun
  | [d1, d2] => { results := [.lit (.bool false)], args := [d1, d2] }
  | _ => none }
def CastPlannedWrongFalsely : Prop := castPlannedRow.holds Tryz.pinned (OpenSpec.ofChange castPlannedWrong)

/-- 'hachurelaw07.CastFewest': WHATEVER THE INPUT: true; the input reads as it did. -/
def castFewestSpec : ChangeSpec := { name := "castFewest", fn := fun _ => fun
  | [d1, d2, d3] => { results := [.lit (.bool true)], args := [d1, d2, d3] }
  | _ => none }
def castFewestRow : OpenClaim := { program := "ytpdldmichpmgmaagreat", sum := "c6045b809a6e11b341a9116d4d491c2cd813070c7b32180bb9f27847f07a10f7", func := "hachure/hachurelaw07.CastFewest", spec := "castFewest", unfollowed := true, recurses := true, plainKeys := false, apart := false }
def CastFewestSaid : Prop := castFewestRow.holds Tryz.pinned (OpenSpec.ofChange castFewestSpec)

/-- ITS FALSE NEIGHBOUR: 'it returns false'. Refute it at one input. -/
def castFewestWrong : ChangeSpec := { name := "castFewest", fn := fun _ => fun
  | [d1, d2, d3] => { results := [.lit (.bool false)], args := [d1, d2, d3] }
  | _ => none }
def CastFewestWrongFalsely : Prop := castFewestRow.holds Tryz.pinned (OpenSpec.ofChange castFewestWrong)

/-- 'hachurelaw07.CastLacks': WHATEVER THE INPUT: true; the input reads as it did. -/
def castLacksSpec : ChangeSpec := { name := "castLacks", fn := fun _ => fun
  | [d1, d2, d3] => { results := [.lit (.bool true)], args := [d1, d2, d3] }
  | _ => none }
def castLacksRow : OpenClaim := { program := "ytpdldmichpmgmaagreat", sum := "c6045b809a6e11b341a9116d4d491c2cd813070c7b32180bb9f27847f07a10f7", func := "hachure/hachurelaw07.CastLacks", spec := "castLacks", unfollowed := true, recurses := true, plainKeys := false, apart := false }
def CastLacksSaid : Prop := castLacksRow.holds Tryz.pinned (OpenSpec.ofChange castLacksSpec)

/-- ITS FALSE NEIGHBOUR: 'it returns false'. Refute it at one input. -/
def castLacksWrong : ChangeSpec := { name := "castLacks", fn := fun _ => fun
  | [d1, d2, d3] => { results := [.lit (.bool false)], args := [d1, d2, d3] }
  | _ => none }
def CastLacksWrongFalsely : Prop := castLacksRow.holds Tryz.pinned (OpenSpec.ofChange castLacksWrong)

/- THE SECOND FORM. 'bulk': how many values and letters a reading holds, each counted each time it is reached (what is shared counts as often as it is met; a slice's spare places count too). A statement '..UptoSaid' is the law's where the arguments, and the package variables that the reading takes, are together of bulk at most 1048576: NARROWER than '..Said'. Prove '..Said' where nothing that the law and all that it calls make is longer than what came in: it says more and counts as full. Else prove '..UptoSaid'. A law counts once. -/
mutual
def uptoBulk {H : Type} : DataW H → Nat
  | .lit (.string bytes) => bytes.length + 1
  | .lit _ => 1
  | .nil => 1
  | .ptr d => uptoBulk d + 1
  | .slice elems spare => uptoBulkAll elems + uptoBulkAll spare + 1
  | .agg parts => uptoBulkAll parts + 1
  | .iface _ d => uptoBulk d + 1
  | .map entries => uptoBulkEntries entries + 1
  | .held _ => 1
def uptoBulkAll {H : Type} : List (DataW H) → Nat
  | [] => 0
  | d :: r => uptoBulk d + uptoBulkAll r
def uptoBulkEntries {H : Type} : List (Lit × DataW H) → Nat
  | [] => 0
  | x :: r => uptoBulkEntry x + uptoBulkEntries r
def uptoBulkEntry {H : Type} : Lit × DataW H → Nat
  | (.string bytes, d) => bytes.length + uptoBulk d + 1
  | (_, d) => uptoBulk d + 1
 end
def uptoSmall : (H : Type) → List (DataW H) → Bool := fun _ ds => decide (uptoBulkAll ds ≤ 1048576)
def OpenSpec.upto (s : _root_.Go.ChangeSpec) : _root_.Go.OpenSpec := { _root_.Go.OpenSpec.ofChange s with cond := some uptoSmall }

/-- 'hachurelaw07.CastPlans', WHERE WHAT IT READS IS OF BULK AT MOST 1048576: true; the input reads as it did. -/
def castPlansUptoRow : OpenClaim := { program := "ytpdldmichpmgmaagreat", sum := "c6045b809a6e11b341a9116d4d491c2cd813070c7b32180bb9f27847f07a10f7", func := "hachure/hachurelaw07.CastPlans", spec := "castPlans", unfollowed := true, recurses := true, plainKeys := false, apart := false, narrowed := true }
def CastPlansUptoSaid : Prop := castPlansUptoRow.holds Tryz.pinned (OpenSpec.upto castPlansSpec)

/-- 'hachurelaw07.CastPlanned', WHERE WHAT IT READS IS OF BULK AT MOST 1048576: true; the input reads as it did. -/
def castPlannedUptoRow : OpenClaim := { program := "ytpdldmichpmgmaagreat", sum := "c6045b809a6e11b341a9116d4d491c2cd813070c7b32180bb9f27847f07a10f7", func := "hachure/hachurelaw07.CastPlanned", spec := "castPlanned", unfollowed := true, recurses := true, plainKeys := false, apart := false, narrowed := true }
def CastPlannedUptoSaid : Prop := castPlannedUptoRow.holds Tryz.pinned (OpenSpec.upto castPlannedSpec)

/-- 'hachurelaw07.CastFewest', WHERE WHAT IT READS IS OF BULK AT MOST 1048576: true; the input reads as it did. -/
def castFewestUptoRow : OpenClaim := { program := "ytpdldmichpmgmaagreat", sum := "c6045b809a6e11b341a9116d4d491c2cd813070c7b32180bb9f27847f07a10f7", func := "hachure/hachurelaw07.CastFewest", spec := "castFewest", unfollowed := true, recurses := true, plainKeys := false, apart := false, narrowed := true }
def CastFewestUptoSaid : Prop := castFewestUptoRow.holds Tryz.pinned (OpenSpec.upto castFewestSpec)

/-- 'hachurelaw07.CastLacks', WHERE WHAT IT READS IS OF BULK AT MOST 1048576: true; the input reads as it did. -/
def castLacksUptoRow : OpenClaim := { program := "ytpdldmichpmgmaagreat", sum := "c6045b809a6e11b341a9116d4d491c2cd813070c7b32180bb9f27847f07a10f7", func := "hachure/hachurelaw07.CastLacks", spec := "castLacks", unfollowed := true, recurses := true, plainKeys := false, apart := false, narrowed := true }
def CastLacksUptoSaid : Prop := castLacksUptoRow.holds Tryz.pinned (OpenSpec.upto castLacksSpec)

end Rows
end Go.Proofs.YtpdldmichpmgmaaGreat
