/-
  DERIVED. GIVEN WITH THE SEED: THE CARDS: each row of YtkjndkeboeieoaaGreatDoorRows.lean that lists a variable, with what it lists TIED to the program's text (the seventh form; the later family's looks); each row that meets fmt, with fmt's text TOLD by the authors' own Lean function (tested against real Go, not proved from fmt's source: count such statements apart). THE CARD IS WHAT COUNTS. Prove the row's statement (the work); the ties are given (YtkjndkeboeieoaaGreatDoorTie.lean); close each card by the builder's one call (the guide's Derived/Test/ToyasCard.lean, 'card_holds'). Laid BY PROGRAM, IN A SANDBOX (cutbox-door.mjs). By AI agents, Wed Nov 11 2026. No macro, syntax, notation, axiom, sorry.
-/
import Derived.Test.YtkjndkeboeieoaaGreatDoorRows
import GoSem.ClaimSeven
namespace Go.Proofs.YtkjndkeboeieoaaGreatDoor
namespace Rows

/-- THE TIED CARD OF 'sewershedlaw17.GaugeTexts'. -/
def gaugeTextsCard : Claim7 := { stood := { row := gaugeTextsRow, standIns := [], harness := (true, "82aaea14bdb06f96e2161386ff43eae74890b528e9d9df650de8425e27aa9a8e"), looks := true }, kinds := [], alts := [], laidByText := true, laidKinds := [.data, .data, .data, .data, .sentinel, .sentinel, .pinned], laidTests := true, laidLooks := .later }
def GaugeTextsCardSaid : Prop := Claim7.holds Tryz.pinned (.plain (OpenSpec.ofChange gaugeTextsSpec)) gaugeTextsCard

/-- THE TIED CARD OF 'sewershedlaw17.GaugeBack'. -/
def gaugeBackCard : Claim7 := { stood := { row := gaugeBackRow, standIns := [], harness := (true, "82aaea14bdb06f96e2161386ff43eae74890b528e9d9df650de8425e27aa9a8e"), looks := true }, kinds := [], alts := [], laidByText := true, laidKinds := [.data, .data, .data, .data, .sentinel, .sentinel, .pinned], laidTests := true, laidLooks := .later }
def GaugeBackCardSaid : Prop := Claim7.holds Tryz.pinned (.plain (OpenSpec.ofChange gaugeBackSpec)) gaugeBackCard

/-- THE SECOND FORM's CARD OF 'sewershedlaw17.GaugeTexts'. -/
def gaugeTextsUptoCard : Claim7 := { stood := { row := gaugeTextsUptoRow, standIns := [], harness := (true, "82aaea14bdb06f96e2161386ff43eae74890b528e9d9df650de8425e27aa9a8e"), looks := true }, kinds := [], alts := [], laidByText := true, laidKinds := [.data, .data, .data, .data, .sentinel, .sentinel, .pinned], laidTests := true, laidLooks := .later }
def GaugeTextsUptoCardSaid : Prop := Claim7.holds Tryz.pinned (.plain (OpenSpec.upto gaugeTextsSpec)) gaugeTextsUptoCard

/-- THE SECOND FORM's CARD OF 'sewershedlaw17.GaugeBack'. -/
def gaugeBackUptoCard : Claim7 := { stood := { row := gaugeBackUptoRow, standIns := [], harness := (true, "82aaea14bdb06f96e2161386ff43eae74890b528e9d9df650de8425e27aa9a8e"), looks := true }, kinds := [], alts := [], laidByText := true, laidKinds := [.data, .data, .data, .data, .sentinel, .sentinel, .pinned], laidTests := true, laidLooks := .later }
def GaugeBackUptoCardSaid : Prop := Claim7.holds Tryz.pinned (.plain (OpenSpec.upto gaugeBackSpec)) gaugeBackUptoCard
end Rows
end Go.Proofs.YtkjndkeboeieoaaGreatDoor
