/-
  DERIVED. GIVEN WITH THE SEED: THE CARDS: each row of YtpagljdnkolhdaaGreatDoorRows.lean that lists a variable, with what it lists TIED to the program's text (the seventh form; the later family's looks); each row that meets fmt, with fmt's text TOLD by the authors' own Lean function (tested against real Go, not proved from fmt's source: count such statements apart). THE CARD IS WHAT COUNTS. Prove the row's statement (the work); the ties are given (YtpagljdnkolhdaaGreatDoorTie.lean); close each card by the builder's one call (the guide's Derived/Test/ToyasCard.lean, 'card_holds'). Laid BY PROGRAM, IN A SANDBOX (cutbox-door.mjs). By AI agents, Wed Nov 11 2026. No macro, syntax, notation, axiom, sorry.
-/
import Derived.Test.YtpagljdnkolhdaaGreatDoorRows
import GoSem.ClaimSeven
namespace Go.Proofs.YtpagljdnkolhdaaGreatDoor
namespace Rows

/-- THE TIED CARD OF 'parlourlaw08.TypesKnown'. -/
def typesKnownCard : Claim7 := { stood := { row := typesKnownRow, standIns := [], harness := (true, "5d339942c0df6e93cb244ba7c053aec825cec7b40b5dfec480046f6b094fa04e"), looks := true }, kinds := [], alts := [], laidByText := true, laidKinds := [.handle], laidTests := true, laidLooks := .later }
def TypesKnownCardSaid : Prop := Claim7.holds Tryz.pinned (.plain (OpenSpec.ofChange typesKnownSpec)) typesKnownCard

/-- THE TIED CARD OF 'parlourlaw08.TypesNames'. -/
def typesNamesCard : Claim7 := { stood := { row := typesNamesRow, standIns := [], harness := (true, "5d339942c0df6e93cb244ba7c053aec825cec7b40b5dfec480046f6b094fa04e"), looks := true }, kinds := [], alts := [], laidByText := true, laidKinds := [.handle], laidTests := true, laidLooks := .later }
def TypesNamesCardSaid : Prop := Claim7.holds Tryz.pinned (.plain (OpenSpec.ofChange typesNamesSpec)) typesNamesCard

/-- THE TIED CARD OF 'parlourlaw08.TypesRules'. -/
def typesRulesCard : Claim7 := { stood := { row := typesRulesRow, standIns := [], harness := (true, "5d339942c0df6e93cb244ba7c053aec825cec7b40b5dfec480046f6b094fa04e"), looks := true }, kinds := [], alts := [], laidByText := true, laidKinds := [.handle], laidTests := true, laidLooks := .later }
def TypesRulesCardSaid : Prop := Claim7.holds Tryz.pinned (.plain (OpenSpec.ofChange typesRulesSpec)) typesRulesCard

/-- THE TIED CARD OF 'parlourlaw08.TypesFront'. -/
def typesFrontCard : Claim7 := { stood := { row := typesFrontRow, standIns := [], harness := (true, "5d339942c0df6e93cb244ba7c053aec825cec7b40b5dfec480046f6b094fa04e"), looks := true }, kinds := [], alts := [], laidByText := true, laidKinds := [.handle], laidTests := true, laidLooks := .later }
def TypesFrontCardSaid : Prop := Claim7.holds Tryz.pinned (.plain (OpenSpec.ofChange typesFrontSpec)) typesFrontCard

/-- THE TIED CARD OF 'parlourlaw08.TypesPrinted'. -/
def typesPrintedCard : Claim7 := { stood := { row := typesPrintedRow, standIns := [], harness := (true, "5d339942c0df6e93cb244ba7c053aec825cec7b40b5dfec480046f6b094fa04e"), looks := true }, kinds := [], alts := [], laidByText := true, laidKinds := [.handle], laidTests := true, laidLooks := .later }
def TypesPrintedCardSaid : Prop := Claim7.holds Tryz.pinned (.plain (OpenSpec.ofChange typesPrintedSpec)) typesPrintedCard

/-- THE TIED CARD OF 'parlourlaw09.EvalValues'. -/
def evalValuesCard : Claim7 := { stood := { row := evalValuesRow, standIns := [], harness := (true, "5d339942c0df6e93cb244ba7c053aec825cec7b40b5dfec480046f6b094fa04e"), looks := true }, kinds := [], alts := [], laidByText := true, laidKinds := [.handle], laidTests := true, laidLooks := .later }
def EvalValuesCardSaid : Prop := Claim7.holds Tryz.pinned (.plain (OpenSpec.ofChange evalValuesSpec)) evalValuesCard

/-- THE TIED CARD OF 'parlourlaw09.EvalKnown'. -/
def evalKnownCard : Claim7 := { stood := { row := evalKnownRow, standIns := [], harness := (true, "5d339942c0df6e93cb244ba7c053aec825cec7b40b5dfec480046f6b094fa04e"), looks := true }, kinds := [], alts := [], laidByText := true, laidKinds := [.handle], laidTests := true, laidLooks := .later }
def EvalKnownCardSaid : Prop := Claim7.holds Tryz.pinned (.plain (OpenSpec.ofChange evalKnownSpec)) evalKnownCard

/-- THE TIED CARD OF 'parlourlaw09.EvalDivides'. -/
def evalDividesCard : Claim7 := { stood := { row := evalDividesRow, standIns := [], harness := (true, "5d339942c0df6e93cb244ba7c053aec825cec7b40b5dfec480046f6b094fa04e"), looks := true }, kinds := [], alts := [], laidByText := true, laidKinds := [.handle], laidTests := true, laidLooks := .later }
def EvalDividesCardSaid : Prop := Claim7.holds Tryz.pinned (.plain (OpenSpec.ofChange evalDividesSpec)) evalDividesCard

/-- THE TIED CARD OF 'parlourlaw09.EvalPuts'. -/
def evalPutsCard : Claim7 := { stood := { row := evalPutsRow, standIns := [], harness := (true, "5d339942c0df6e93cb244ba7c053aec825cec7b40b5dfec480046f6b094fa04e"), looks := true }, kinds := [], alts := [], laidByText := true, laidKinds := [.handle], laidTests := true, laidLooks := .later }
def EvalPutsCardSaid : Prop := Claim7.holds Tryz.pinned (.plain (OpenSpec.ofChange evalPutsSpec)) evalPutsCard

/-- THE SECOND FORM's CARD OF 'parlourlaw08.TypesKnown'. -/
def typesKnownUptoCard : Claim7 := { stood := { row := typesKnownUptoRow, standIns := [], harness := (true, "5d339942c0df6e93cb244ba7c053aec825cec7b40b5dfec480046f6b094fa04e"), looks := true }, kinds := [], alts := [], laidByText := true, laidKinds := [.handle], laidTests := true, laidLooks := .later }
def TypesKnownUptoCardSaid : Prop := Claim7.holds Tryz.pinned (.plain (OpenSpec.upto typesKnownSpec)) typesKnownUptoCard

/-- THE SECOND FORM's CARD OF 'parlourlaw08.TypesNames'. -/
def typesNamesUptoCard : Claim7 := { stood := { row := typesNamesUptoRow, standIns := [], harness := (true, "5d339942c0df6e93cb244ba7c053aec825cec7b40b5dfec480046f6b094fa04e"), looks := true }, kinds := [], alts := [], laidByText := true, laidKinds := [.handle], laidTests := true, laidLooks := .later }
def TypesNamesUptoCardSaid : Prop := Claim7.holds Tryz.pinned (.plain (OpenSpec.upto typesNamesSpec)) typesNamesUptoCard

/-- THE SECOND FORM's CARD OF 'parlourlaw08.TypesRules'. -/
def typesRulesUptoCard : Claim7 := { stood := { row := typesRulesUptoRow, standIns := [], harness := (true, "5d339942c0df6e93cb244ba7c053aec825cec7b40b5dfec480046f6b094fa04e"), looks := true }, kinds := [], alts := [], laidByText := true, laidKinds := [.handle], laidTests := true, laidLooks := .later }
def TypesRulesUptoCardSaid : Prop := Claim7.holds Tryz.pinned (.plain (OpenSpec.upto typesRulesSpec)) typesRulesUptoCard

/-- THE SECOND FORM's CARD OF 'parlourlaw08.TypesFront'. -/
def typesFrontUptoCard : Claim7 := { stood := { row := typesFrontUptoRow, standIns := [], harness := (true, "5d339942c0df6e93cb244ba7c053aec825cec7b40b5dfec480046f6b094fa04e"), looks := true }, kinds := [], alts := [], laidByText := true, laidKinds := [.handle], laidTests := true, laidLooks := .later }
def TypesFrontUptoCardSaid : Prop := Claim7.holds Tryz.pinned (.plain (OpenSpec.upto typesFrontSpec)) typesFrontUptoCard

/-- THE SECOND FORM's CARD OF 'parlourlaw08.TypesPrinted'. -/
def typesPrintedUptoCard : Claim7 := { stood := { row := typesPrintedUptoRow, standIns := [], harness := (true, "5d339942c0df6e93cb244ba7c053aec825cec7b40b5dfec480046f6b094fa04e"), looks := true }, kinds := [], alts := [], laidByText := true, laidKinds := [.handle], laidTests := true, laidLooks := .later }
def TypesPrintedUptoCardSaid : Prop := Claim7.holds Tryz.pinned (.plain (OpenSpec.upto typesPrintedSpec)) typesPrintedUptoCard

/-- THE SECOND FORM's CARD OF 'parlourlaw09.EvalValues'. -/
def evalValuesUptoCard : Claim7 := { stood := { row := evalValuesUptoRow, standIns := [], harness := (true, "5d339942c0df6e93cb244ba7c053aec825cec7b40b5dfec480046f6b094fa04e"), looks := true }, kinds := [], alts := [], laidByText := true, laidKinds := [.handle], laidTests := true, laidLooks := .later }
def EvalValuesUptoCardSaid : Prop := Claim7.holds Tryz.pinned (.plain (OpenSpec.upto evalValuesSpec)) evalValuesUptoCard

/-- THE SECOND FORM's CARD OF 'parlourlaw09.EvalKnown'. -/
def evalKnownUptoCard : Claim7 := { stood := { row := evalKnownUptoRow, standIns := [], harness := (true, "5d339942c0df6e93cb244ba7c053aec825cec7b40b5dfec480046f6b094fa04e"), looks := true }, kinds := [], alts := [], laidByText := true, laidKinds := [.handle], laidTests := true, laidLooks := .later }
def EvalKnownUptoCardSaid : Prop := Claim7.holds Tryz.pinned (.plain (OpenSpec.upto evalKnownSpec)) evalKnownUptoCard

/-- THE SECOND FORM's CARD OF 'parlourlaw09.EvalDivides'. -/
def evalDividesUptoCard : Claim7 := { stood := { row := evalDividesUptoRow, standIns := [], harness := (true, "5d339942c0df6e93cb244ba7c053aec825cec7b40b5dfec480046f6b094fa04e"), looks := true }, kinds := [], alts := [], laidByText := true, laidKinds := [.handle], laidTests := true, laidLooks := .later }
def EvalDividesUptoCardSaid : Prop := Claim7.holds Tryz.pinned (.plain (OpenSpec.upto evalDividesSpec)) evalDividesUptoCard

/-- THE SECOND FORM's CARD OF 'parlourlaw09.EvalPuts'. -/
def evalPutsUptoCard : Claim7 := { stood := { row := evalPutsUptoRow, standIns := [], harness := (true, "5d339942c0df6e93cb244ba7c053aec825cec7b40b5dfec480046f6b094fa04e"), looks := true }, kinds := [], alts := [], laidByText := true, laidKinds := [.handle], laidTests := true, laidLooks := .later }
def EvalPutsUptoCardSaid : Prop := Claim7.holds Tryz.pinned (.plain (OpenSpec.upto evalPutsSpec)) evalPutsUptoCard
end Rows
end Go.Proofs.YtpagljdnkolhdaaGreatDoor
