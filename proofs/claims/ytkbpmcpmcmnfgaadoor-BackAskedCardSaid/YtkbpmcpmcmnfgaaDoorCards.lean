/-
  DERIVED. GIVEN WITH THE SEED: THE CARDS: each row of YtkbpmcpmcmnfgaaDoorRows.lean that lists a variable, with what it lists TIED to the program's text (the seventh form; the later family's looks); each row that meets fmt, with fmt's text TOLD by the authors' own Lean function (tested against real Go, not proved from fmt's source: count such statements apart). THE CARD IS WHAT COUNTS. Prove the row's statement (the work); the ties are given (YtkbpmcpmcmnfgaaDoorTie.lean); close each card by the builder's one call (the guide's Derived/Test/ToyasCard.lean, 'card_holds'). Laid BY PROGRAM, IN A SANDBOX (cutbox-door.mjs). By AI agents, Wed Nov 11 2026. No macro, syntax, notation, axiom, sorry.
-/
import Derived.Test.YtkbpmcpmcmnfgaaDoorRows
import GoSem.ClaimSeven
namespace Go.Proofs.YtkbpmcpmcmnfgaaDoor
namespace Rows

/-- THE TIED CARD OF 'hachurelaw12.BackSets'. -/
def backSetsCard : Claim7 := { stood := { row := backSetsRow, standIns := [], harness := (true, "9ad825207eba4f5d2304b2d0f1a731ff35658b76f1ffc519f7f98b9367b82512"), looks := false }, kinds := [], alts := [], laidByText := true, laidKinds := [.data, .data], laidTests := true, laidLooks := .later }
def BackSetsCardSaid : Prop := Claim7.holds Tryd.pinned (.plain (OpenSpec.ofChange backSetsSpec)) backSetsCard

/-- THE TIED CARD OF 'hachurelaw12.BackMust'. -/
def backMustCard : Claim7 := { stood := { row := backMustRow, standIns := [], harness := (true, "9ad825207eba4f5d2304b2d0f1a731ff35658b76f1ffc519f7f98b9367b82512"), looks := false }, kinds := [], alts := [], laidByText := true, laidKinds := [.data, .data], laidTests := true, laidLooks := .later }
def BackMustCardSaid : Prop := Claim7.holds Tryd.pinned (.plain (OpenSpec.ofChange backMustSpec)) backMustCard

/-- THE TIED CARD OF 'hachurelaw12.BackAsks'. -/
def backAsksCard : Claim7 := { stood := { row := backAsksRow, standIns := [], harness := (true, "9ad825207eba4f5d2304b2d0f1a731ff35658b76f1ffc519f7f98b9367b82512"), looks := false }, kinds := [], alts := [], laidByText := true, laidKinds := [.data, .data], laidTests := true, laidLooks := .later }
def BackAsksCardSaid : Prop := Claim7.holds Tryd.pinned (.plain (OpenSpec.ofChange backAsksSpec)) backAsksCard

/-- THE TIED CARD OF 'hachurelaw12.BackKnown'. -/
def backKnownCard : Claim7 := { stood := { row := backKnownRow, standIns := [], harness := (true, "9ad825207eba4f5d2304b2d0f1a731ff35658b76f1ffc519f7f98b9367b82512"), looks := false }, kinds := [], alts := [], laidByText := true, laidKinds := [.data, .data], laidTests := true, laidLooks := .later }
def BackKnownCardSaid : Prop := Claim7.holds Tryd.pinned (.plain (OpenSpec.ofChange backKnownSpec)) backKnownCard

/-- THE TIED CARD OF 'hachurelaw12.BackTrue'. -/
def backTrueCard : Claim7 := { stood := { row := backTrueRow, standIns := [], harness := (true, "9ad825207eba4f5d2304b2d0f1a731ff35658b76f1ffc519f7f98b9367b82512"), looks := false }, kinds := [], alts := [], laidByText := true, laidKinds := [.data, .data], laidTests := true, laidLooks := .later }
def BackTrueCardSaid : Prop := Claim7.holds Tryd.pinned (.plain (OpenSpec.ofChange backTrueSpec)) backTrueCard

/-- THE TIED CARD OF 'hachurelaw12.BackFewer'. -/
def backFewerCard : Claim7 := { stood := { row := backFewerRow, standIns := [], harness := (true, "9ad825207eba4f5d2304b2d0f1a731ff35658b76f1ffc519f7f98b9367b82512"), looks := false }, kinds := [], alts := [], laidByText := true, laidKinds := [.data, .data], laidTests := true, laidLooks := .later }
def BackFewerCardSaid : Prop := Claim7.holds Tryd.pinned (.plain (OpenSpec.ofChange backFewerSpec)) backFewerCard

/-- THE TIED CARD OF 'hachurelaw12.BackNeeded'. -/
def backNeededCard : Claim7 := { stood := { row := backNeededRow, standIns := [], harness := (true, "9ad825207eba4f5d2304b2d0f1a731ff35658b76f1ffc519f7f98b9367b82512"), looks := false }, kinds := [], alts := [], laidByText := true, laidKinds := [.data, .data], laidTests := true, laidLooks := .later }
def BackNeededCardSaid : Prop := Claim7.holds Tryd.pinned (.plain (OpenSpec.ofChange backNeededSpec)) backNeededCard

/-- THE TIED CARD OF 'hachurelaw12.BackMore'. -/
def backMoreCard : Claim7 := { stood := { row := backMoreRow, standIns := [], harness := (true, "9ad825207eba4f5d2304b2d0f1a731ff35658b76f1ffc519f7f98b9367b82512"), looks := false }, kinds := [], alts := [], laidByText := true, laidKinds := [.data, .data], laidTests := true, laidLooks := .later }
def BackMoreCardSaid : Prop := Claim7.holds Tryd.pinned (.plain (OpenSpec.ofChange backMoreSpec)) backMoreCard

/-- THE TIED CARD OF 'hachurelaw12.BackAsked'. -/
def backAskedCard : Claim7 := { stood := { row := backAskedRow, standIns := [], harness := (true, "9ad825207eba4f5d2304b2d0f1a731ff35658b76f1ffc519f7f98b9367b82512"), looks := false }, kinds := [], alts := [], laidByText := true, laidKinds := [.data, .data], laidTests := true, laidLooks := .later }
def BackAskedCardSaid : Prop := Claim7.holds Tryd.pinned (.plain (OpenSpec.ofChange backAskedSpec)) backAskedCard

/-- THE TIED CARD OF 'hachurelaw12.BackWrong'. -/
def backWrongCard : Claim7 := { stood := { row := backWrongRow, standIns := [], harness := (true, "9ad825207eba4f5d2304b2d0f1a731ff35658b76f1ffc519f7f98b9367b82512"), looks := false }, kinds := [], alts := [], laidByText := true, laidKinds := [.data, .data], laidTests := true, laidLooks := .later }
def BackWrongCardSaid : Prop := Claim7.holds Tryd.pinned (.plain (OpenSpec.ofChange backWrongSpec)) backWrongCard

/-- THE TIED CARD OF 'hachurelaw12.BackLarger'. -/
def backLargerCard : Claim7 := { stood := { row := backLargerRow, standIns := [], harness := (true, "9ad825207eba4f5d2304b2d0f1a731ff35658b76f1ffc519f7f98b9367b82512"), looks := false }, kinds := [], alts := [], laidByText := true, laidKinds := [.data, .data], laidTests := true, laidLooks := .later }
def BackLargerCardSaid : Prop := Claim7.holds Tryd.pinned (.plain (OpenSpec.ofChange backLargerSpec)) backLargerCard

/-- THE TIED CARD OF 'hachurelaw12.BackFurther'. -/
def backFurtherCard : Claim7 := { stood := { row := backFurtherRow, standIns := [], harness := (true, "9ad825207eba4f5d2304b2d0f1a731ff35658b76f1ffc519f7f98b9367b82512"), looks := false }, kinds := [], alts := [], laidByText := true, laidKinds := [.data, .data], laidTests := true, laidLooks := .later }
def BackFurtherCardSaid : Prop := Claim7.holds Tryd.pinned (.plain (OpenSpec.ofChange backFurtherSpec)) backFurtherCard

/-- THE SECOND FORM's CARD OF 'hachurelaw12.BackSets'. -/
def backSetsUptoCard : Claim7 := { stood := { row := backSetsUptoRow, standIns := [], harness := (true, "9ad825207eba4f5d2304b2d0f1a731ff35658b76f1ffc519f7f98b9367b82512"), looks := false }, kinds := [], alts := [], laidByText := true, laidKinds := [.data, .data], laidTests := true, laidLooks := .later }
def BackSetsUptoCardSaid : Prop := Claim7.holds Tryd.pinned (.plain (OpenSpec.upto backSetsSpec)) backSetsUptoCard

/-- THE SECOND FORM's CARD OF 'hachurelaw12.BackMust'. -/
def backMustUptoCard : Claim7 := { stood := { row := backMustUptoRow, standIns := [], harness := (true, "9ad825207eba4f5d2304b2d0f1a731ff35658b76f1ffc519f7f98b9367b82512"), looks := false }, kinds := [], alts := [], laidByText := true, laidKinds := [.data, .data], laidTests := true, laidLooks := .later }
def BackMustUptoCardSaid : Prop := Claim7.holds Tryd.pinned (.plain (OpenSpec.upto backMustSpec)) backMustUptoCard

/-- THE SECOND FORM's CARD OF 'hachurelaw12.BackAsks'. -/
def backAsksUptoCard : Claim7 := { stood := { row := backAsksUptoRow, standIns := [], harness := (true, "9ad825207eba4f5d2304b2d0f1a731ff35658b76f1ffc519f7f98b9367b82512"), looks := false }, kinds := [], alts := [], laidByText := true, laidKinds := [.data, .data], laidTests := true, laidLooks := .later }
def BackAsksUptoCardSaid : Prop := Claim7.holds Tryd.pinned (.plain (OpenSpec.upto backAsksSpec)) backAsksUptoCard

/-- THE SECOND FORM's CARD OF 'hachurelaw12.BackKnown'. -/
def backKnownUptoCard : Claim7 := { stood := { row := backKnownUptoRow, standIns := [], harness := (true, "9ad825207eba4f5d2304b2d0f1a731ff35658b76f1ffc519f7f98b9367b82512"), looks := false }, kinds := [], alts := [], laidByText := true, laidKinds := [.data, .data], laidTests := true, laidLooks := .later }
def BackKnownUptoCardSaid : Prop := Claim7.holds Tryd.pinned (.plain (OpenSpec.upto backKnownSpec)) backKnownUptoCard

/-- THE SECOND FORM's CARD OF 'hachurelaw12.BackTrue'. -/
def backTrueUptoCard : Claim7 := { stood := { row := backTrueUptoRow, standIns := [], harness := (true, "9ad825207eba4f5d2304b2d0f1a731ff35658b76f1ffc519f7f98b9367b82512"), looks := false }, kinds := [], alts := [], laidByText := true, laidKinds := [.data, .data], laidTests := true, laidLooks := .later }
def BackTrueUptoCardSaid : Prop := Claim7.holds Tryd.pinned (.plain (OpenSpec.upto backTrueSpec)) backTrueUptoCard

/-- THE SECOND FORM's CARD OF 'hachurelaw12.BackFewer'. -/
def backFewerUptoCard : Claim7 := { stood := { row := backFewerUptoRow, standIns := [], harness := (true, "9ad825207eba4f5d2304b2d0f1a731ff35658b76f1ffc519f7f98b9367b82512"), looks := false }, kinds := [], alts := [], laidByText := true, laidKinds := [.data, .data], laidTests := true, laidLooks := .later }
def BackFewerUptoCardSaid : Prop := Claim7.holds Tryd.pinned (.plain (OpenSpec.upto backFewerSpec)) backFewerUptoCard

/-- THE SECOND FORM's CARD OF 'hachurelaw12.BackNeeded'. -/
def backNeededUptoCard : Claim7 := { stood := { row := backNeededUptoRow, standIns := [], harness := (true, "9ad825207eba4f5d2304b2d0f1a731ff35658b76f1ffc519f7f98b9367b82512"), looks := false }, kinds := [], alts := [], laidByText := true, laidKinds := [.data, .data], laidTests := true, laidLooks := .later }
def BackNeededUptoCardSaid : Prop := Claim7.holds Tryd.pinned (.plain (OpenSpec.upto backNeededSpec)) backNeededUptoCard

/-- THE SECOND FORM's CARD OF 'hachurelaw12.BackMore'. -/
def backMoreUptoCard : Claim7 := { stood := { row := backMoreUptoRow, standIns := [], harness := (true, "9ad825207eba4f5d2304b2d0f1a731ff35658b76f1ffc519f7f98b9367b82512"), looks := false }, kinds := [], alts := [], laidByText := true, laidKinds := [.data, .data], laidTests := true, laidLooks := .later }
def BackMoreUptoCardSaid : Prop := Claim7.holds Tryd.pinned (.plain (OpenSpec.upto backMoreSpec)) backMoreUptoCard

/-- THE SECOND FORM's CARD OF 'hachurelaw12.BackAsked'. -/
def backAskedUptoCard : Claim7 := { stood := { row := backAskedUptoRow, standIns := [], harness := (true, "9ad825207eba4f5d2304b2d0f1a731ff35658b76f1ffc519f7f98b9367b82512"), looks := false }, kinds := [], alts := [], laidByText := true, laidKinds := [.data, .data], laidTests := true, laidLooks := .later }
def BackAskedUptoCardSaid : Prop := Claim7.holds Tryd.pinned (.plain (OpenSpec.upto backAskedSpec)) backAskedUptoCard

/-- THE SECOND FORM's CARD OF 'hachurelaw12.BackWrong'. -/
def backWrongUptoCard : Claim7 := { stood := { row := backWrongUptoRow, standIns := [], harness := (true, "9ad825207eba4f5d2304b2d0f1a731ff35658b76f1ffc519f7f98b9367b82512"), looks := false }, kinds := [], alts := [], laidByText := true, laidKinds := [.data, .data], laidTests := true, laidLooks := .later }
def BackWrongUptoCardSaid : Prop := Claim7.holds Tryd.pinned (.plain (OpenSpec.upto backWrongSpec)) backWrongUptoCard

/-- THE SECOND FORM's CARD OF 'hachurelaw12.BackLarger'. -/
def backLargerUptoCard : Claim7 := { stood := { row := backLargerUptoRow, standIns := [], harness := (true, "9ad825207eba4f5d2304b2d0f1a731ff35658b76f1ffc519f7f98b9367b82512"), looks := false }, kinds := [], alts := [], laidByText := true, laidKinds := [.data, .data], laidTests := true, laidLooks := .later }
def BackLargerUptoCardSaid : Prop := Claim7.holds Tryd.pinned (.plain (OpenSpec.upto backLargerSpec)) backLargerUptoCard

/-- THE SECOND FORM's CARD OF 'hachurelaw12.BackFurther'. -/
def backFurtherUptoCard : Claim7 := { stood := { row := backFurtherUptoRow, standIns := [], harness := (true, "9ad825207eba4f5d2304b2d0f1a731ff35658b76f1ffc519f7f98b9367b82512"), looks := false }, kinds := [], alts := [], laidByText := true, laidKinds := [.data, .data], laidTests := true, laidLooks := .later }
def BackFurtherUptoCardSaid : Prop := Claim7.holds Tryd.pinned (.plain (OpenSpec.upto backFurtherSpec)) backFurtherUptoCard
end Rows
end Go.Proofs.YtkbpmcpmcmnfgaaDoor
