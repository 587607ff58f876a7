/-
  DERIVED. GIVEN WITH THE SEED: THE CARDS: each row of YtkglnfkbejoheaaDoorRows.lean that lists a variable, with what it lists TIED to the program's text (the seventh form; the later family's looks); each row that meets fmt, with fmt's text TOLD by the authors' own Lean function (tested against real Go, not proved from fmt's source: count such statements apart). THE CARD IS WHAT COUNTS. Prove the row's statement (the work); the ties are given (YtkglnfkbejoheaaDoorTie.lean); close each card by the builder's one call (the guide's Derived/Test/ToyasCard.lean, 'card_holds'). Laid BY PROGRAM, IN A SANDBOX (cutbox-door.mjs). By AI agents, Wed Nov 11 2026. No macro, syntax, notation, axiom, sorry.
-/
import Derived.Test.YtkglnfkbejoheaaDoorRows
import GoSem.ClaimSeven
namespace Go.Proofs.YtkglnfkbejoheaaDoor
namespace Rows

/-- THE TIED CARD OF 'laws.FnExactReadPulse'. -/
def fnExactReadPulseCard : Claim7 := { stood := { row := fnExactReadPulseRow, standIns := [], harness := (true, "6cfd282885b9068824fe7754c80d8aac26a77261abb6896e15ef9de91ec0faf4"), looks := true }, kinds := [], alts := [], laidByText := true, laidKinds := [.data, .data, .data, .data, .sentinel, .sentinel, .pinned], laidTests := true, laidLooks := .later }
def FnExactReadPulseCardSaid : Prop := Claim7.holds Tryd.pinned (.plain (OpenSpec.ofChange fnExactReadPulseSpec)) fnExactReadPulseCard

/-- THE TIED CARD OF 'laws.FnExactReadSteps'. -/
def fnExactReadStepsCard : Claim7 := { stood := { row := fnExactReadStepsRow, standIns := [], harness := (true, "6cfd282885b9068824fe7754c80d8aac26a77261abb6896e15ef9de91ec0faf4"), looks := true }, kinds := [], alts := [], laidByText := true, laidKinds := [.data, .data, .data, .data, .sentinel, .sentinel, .pinned], laidTests := true, laidLooks := .later }
def FnExactReadStepsCardSaid : Prop := Claim7.holds Tryd.pinned (.plain (OpenSpec.ofChange fnExactReadStepsSpec)) fnExactReadStepsCard

/-- THE TIED CARD OF 'laws.FnSavedSpectra'. -/
def fnSavedSpectraCard : Claim7 := { stood := { row := fnSavedSpectraRow, standIns := [], harness := (true, "6cfd282885b9068824fe7754c80d8aac26a77261abb6896e15ef9de91ec0faf4"), looks := true }, kinds := [], alts := [], laidByText := true, laidKinds := [.data, .pinned], laidTests := true, laidLooks := .later }
def FnSavedSpectraCardSaid : Prop := Claim7.holds Tryd.pinned (.plain (OpenSpec.ofChange fnSavedSpectraSpec)) fnSavedSpectraCard

/-- THE SECOND FORM's CARD OF 'laws.FnExactReadPulse'. -/
def fnExactReadPulseUptoCard : Claim7 := { stood := { row := fnExactReadPulseUptoRow, standIns := [], harness := (true, "6cfd282885b9068824fe7754c80d8aac26a77261abb6896e15ef9de91ec0faf4"), looks := true }, kinds := [], alts := [], laidByText := true, laidKinds := [.data, .data, .data, .data, .sentinel, .sentinel, .pinned], laidTests := true, laidLooks := .later }
def FnExactReadPulseUptoCardSaid : Prop := Claim7.holds Tryd.pinned (.plain (OpenSpec.upto fnExactReadPulseSpec)) fnExactReadPulseUptoCard

/-- THE SECOND FORM's CARD OF 'laws.FnExactReadSteps'. -/
def fnExactReadStepsUptoCard : Claim7 := { stood := { row := fnExactReadStepsUptoRow, standIns := [], harness := (true, "6cfd282885b9068824fe7754c80d8aac26a77261abb6896e15ef9de91ec0faf4"), looks := true }, kinds := [], alts := [], laidByText := true, laidKinds := [.data, .data, .data, .data, .sentinel, .sentinel, .pinned], laidTests := true, laidLooks := .later }
def FnExactReadStepsUptoCardSaid : Prop := Claim7.holds Tryd.pinned (.plain (OpenSpec.upto fnExactReadStepsSpec)) fnExactReadStepsUptoCard

/-- THE SECOND FORM's CARD OF 'laws.FnSavedSpectra'. -/
def fnSavedSpectraUptoCard : Claim7 := { stood := { row := fnSavedSpectraUptoRow, standIns := [], harness := (true, "6cfd282885b9068824fe7754c80d8aac26a77261abb6896e15ef9de91ec0faf4"), looks := true }, kinds := [], alts := [], laidByText := true, laidKinds := [.data, .pinned], laidTests := true, laidLooks := .later }
def FnSavedSpectraUptoCardSaid : Prop := Claim7.holds Tryd.pinned (.plain (OpenSpec.upto fnSavedSpectraSpec)) fnSavedSpectraUptoCard
end Rows
end Go.Proofs.YtkglnfkbejoheaaDoor
