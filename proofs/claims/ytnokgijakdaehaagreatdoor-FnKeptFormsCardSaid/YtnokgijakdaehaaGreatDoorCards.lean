/-
  DERIVED. GIVEN WITH THE SEED: THE CARDS: each row of YtnokgijakdaehaaGreatDoorRows.lean that lists a variable, with what it lists TIED to the program's text (the seventh form; the later family's looks); each row that meets fmt, with fmt's text TOLD by the authors' own Lean function (tested against real Go, not proved from fmt's source: count such statements apart). THE CARD IS WHAT COUNTS. Prove the row's statement (the work); the ties are given (YtnokgijakdaehaaGreatDoorTie.lean); close each card by the builder's one call (the guide's Derived/Test/ToyasCard.lean, 'card_holds'). Laid BY PROGRAM, IN A SANDBOX (cutbox-door.mjs). By AI agents, Wed Nov 11 2026. No macro, syntax, notation, axiom, sorry.
-/
import Derived.Test.YtnokgijakdaehaaGreatDoorRows
import GoSem.ClaimSeven
namespace Go.Proofs.YtnokgijakdaehaaGreatDoor
namespace Rows

/-- THE TIED CARD OF 'laws.FnLinearSteps'. -/
def fnLinearStepsCard : Claim7 := { stood := { row := fnLinearStepsRow, standIns := [], harness := (true, "a497701ae39acbfb4c2254c523940e12c6b195b0a24eaa86dfbf5c862847813e"), looks := true }, kinds := [], alts := [], laidByText := true, laidKinds := [.data, .data, .data, .data, .sentinel, .sentinel, .pinned], laidTests := true, laidLooks := .later }
def FnLinearStepsCardSaid : Prop := Claim7.holds Tryz.pinned (.plain (OpenSpec.ofChange fnLinearStepsSpec)) fnLinearStepsCard

/-- THE TIED CARD OF 'laws.FnStepCompositions'. -/
def fnStepCompositionsCard : Claim7 := { stood := { row := fnStepCompositionsRow, standIns := [], harness := (true, "a497701ae39acbfb4c2254c523940e12c6b195b0a24eaa86dfbf5c862847813e"), looks := true }, kinds := [], alts := [], laidByText := true, laidKinds := [.data, .data, .data, .data, .sentinel, .sentinel, .pinned], laidTests := true, laidLooks := .later }
def FnStepCompositionsCardSaid : Prop := Claim7.holds Tryz.pinned (.plain (OpenSpec.ofChange fnStepCompositionsSpec)) fnStepCompositionsCard

/-- THE TIED CARD OF 'laws.FnStabilityProducts'. -/
def fnStabilityProductsCard : Claim7 := { stood := { row := fnStabilityProductsRow, standIns := [], harness := (true, "a497701ae39acbfb4c2254c523940e12c6b195b0a24eaa86dfbf5c862847813e"), looks := true }, kinds := [], alts := [], laidByText := true, laidKinds := [.data, .data, .data, .data, .sentinel, .sentinel, .pinned], laidTests := true, laidLooks := .later }
def FnStabilityProductsCardSaid : Prop := Claim7.holds Tryz.pinned (.plain (OpenSpec.ofChange fnStabilityProductsSpec)) fnStabilityProductsCard

/-- THE TIED CARD OF 'laws.FnKeptForms'. -/
def fnKeptFormsCard : Claim7 := { stood := { row := fnKeptFormsRow, standIns := [], harness := (true, "a497701ae39acbfb4c2254c523940e12c6b195b0a24eaa86dfbf5c862847813e"), looks := true }, kinds := [], alts := [], laidByText := true, laidKinds := [.data, .data, .data, .data, .sentinel, .sentinel, .pinned], laidTests := true, laidLooks := .later }
def FnKeptFormsCardSaid : Prop := Claim7.holds Tryz.pinned (.plain (OpenSpec.ofChange fnKeptFormsSpec)) fnKeptFormsCard

/-- THE SECOND FORM's CARD OF 'laws.FnLinearSteps'. -/
def fnLinearStepsUptoCard : Claim7 := { stood := { row := fnLinearStepsUptoRow, standIns := [], harness := (true, "a497701ae39acbfb4c2254c523940e12c6b195b0a24eaa86dfbf5c862847813e"), looks := true }, kinds := [], alts := [], laidByText := true, laidKinds := [.data, .data, .data, .data, .sentinel, .sentinel, .pinned], laidTests := true, laidLooks := .later }
def FnLinearStepsUptoCardSaid : Prop := Claim7.holds Tryz.pinned (.plain (OpenSpec.upto fnLinearStepsSpec)) fnLinearStepsUptoCard

/-- THE SECOND FORM's CARD OF 'laws.FnStepCompositions'. -/
def fnStepCompositionsUptoCard : Claim7 := { stood := { row := fnStepCompositionsUptoRow, standIns := [], harness := (true, "a497701ae39acbfb4c2254c523940e12c6b195b0a24eaa86dfbf5c862847813e"), looks := true }, kinds := [], alts := [], laidByText := true, laidKinds := [.data, .data, .data, .data, .sentinel, .sentinel, .pinned], laidTests := true, laidLooks := .later }
def FnStepCompositionsUptoCardSaid : Prop := Claim7.holds Tryz.pinned (.plain (OpenSpec.upto fnStepCompositionsSpec)) fnStepCompositionsUptoCard

/-- THE SECOND FORM's CARD OF 'laws.FnStabilityProducts'. -/
def fnStabilityProductsUptoCard : Claim7 := { stood := { row := fnStabilityProductsUptoRow, standIns := [], harness := (true, "a497701ae39acbfb4c2254c523940e12c6b195b0a24eaa86dfbf5c862847813e"), looks := true }, kinds := [], alts := [], laidByText := true, laidKinds := [.data, .data, .data, .data, .sentinel, .sentinel, .pinned], laidTests := true, laidLooks := .later }
def FnStabilityProductsUptoCardSaid : Prop := Claim7.holds Tryz.pinned (.plain (OpenSpec.upto fnStabilityProductsSpec)) fnStabilityProductsUptoCard

/-- THE SECOND FORM's CARD OF 'laws.FnKeptForms'. -/
def fnKeptFormsUptoCard : Claim7 := { stood := { row := fnKeptFormsUptoRow, standIns := [], harness := (true, "a497701ae39acbfb4c2254c523940e12c6b195b0a24eaa86dfbf5c862847813e"), looks := true }, kinds := [], alts := [], laidByText := true, laidKinds := [.data, .data, .data, .data, .sentinel, .sentinel, .pinned], laidTests := true, laidLooks := .later }
def FnKeptFormsUptoCardSaid : Prop := Claim7.holds Tryz.pinned (.plain (OpenSpec.upto fnKeptFormsSpec)) fnKeptFormsUptoCard
end Rows
end Go.Proofs.YtnokgijakdaehaaGreatDoor
