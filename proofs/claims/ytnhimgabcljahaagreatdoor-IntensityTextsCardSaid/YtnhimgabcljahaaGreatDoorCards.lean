/-
  DERIVED. GIVEN WITH THE SEED: THE CARDS: each row of YtnhimgabcljahaaGreatDoorRows.lean that lists a variable, with what it lists TIED to the program's text (the seventh form; the later family's looks); each row that meets fmt, with fmt's text TOLD by the authors' own Lean function (tested against real Go, not proved from fmt's source: count such statements apart). THE CARD IS WHAT COUNTS. Prove the row's statement (the work); the ties are given (YtnhimgabcljahaaGreatDoorTie.lean); close each card by the builder's one call (the guide's Derived/Test/ToyasCard.lean, 'card_holds'). Laid BY PROGRAM, IN A SANDBOX (cutbox-door.mjs). By AI agents, Wed Nov 11 2026. No macro, syntax, notation, axiom, sorry.
-/
import Derived.Test.YtnhimgabcljahaaGreatDoorRows
import GoSem.ClaimSeven
namespace Go.Proofs.YtnhimgabcljahaaGreatDoor
namespace Rows

/-- THE TIED CARD OF 'sewershedlaw19.IntensityTexts'. -/
def intensityTextsCard : Claim7 := { stood := { row := intensityTextsRow, standIns := [], harness := (true, "b53d8caff8323253e40ef68a599635a32497e0820d7daf880a4a2f737faedd52"), looks := true }, kinds := [], alts := [], laidByText := true, laidKinds := [.data, .data, .data, .data, .sentinel, .sentinel, .pinned], laidTests := true, laidLooks := .later }
def IntensityTextsCardSaid : Prop := Claim7.holds Tryz.pinned (.plain (OpenSpec.ofChange intensityTextsSpec)) intensityTextsCard

/-- THE SECOND FORM's CARD OF 'sewershedlaw19.IntensityTexts'. -/
def intensityTextsUptoCard : Claim7 := { stood := { row := intensityTextsUptoRow, standIns := [], harness := (true, "b53d8caff8323253e40ef68a599635a32497e0820d7daf880a4a2f737faedd52"), looks := true }, kinds := [], alts := [], laidByText := true, laidKinds := [.data, .data, .data, .data, .sentinel, .sentinel, .pinned], laidTests := true, laidLooks := .later }
def IntensityTextsUptoCardSaid : Prop := Claim7.holds Tryz.pinned (.plain (OpenSpec.upto intensityTextsSpec)) intensityTextsUptoCard
end Rows
end Go.Proofs.YtnhimgabcljahaaGreatDoor
