/-
  DERIVED. GIVEN WITH THE SEED: THE CARDS: each row of YtlnlaopokelggaaGreatDoorRows.lean that lists a variable, with what it lists TIED to the program's text (the seventh form; the later family's looks); each row that meets fmt, with fmt's text TOLD by the authors' own Lean function (tested against real Go, not proved from fmt's source: count such statements apart). THE CARD IS WHAT COUNTS. Prove the row's statement (the work); the ties are given (YtlnlaopokelggaaGreatDoorTie.lean); close each card by the builder's one call (the guide's Derived/Test/ToyasCard.lean, 'card_holds'). Laid BY PROGRAM, IN A SANDBOX (cutbox-door.mjs). By AI agents, Wed Nov 11 2026. No macro, syntax, notation, axiom, sorry.
-/
import Derived.Test.YtlnlaopokelggaaGreatDoorRows
import GoSem.ClaimSeven
namespace Go.Proofs.YtlnlaopokelggaaGreatDoor
namespace Rows

/-- THE TIED CARD OF 'sewershedlaw48.CostsTexts'. -/
def costsTextsCard : Claim7 := { stood := { row := costsTextsRow, standIns := [], harness := (true, "c0c441dab77aaef34bb07c0c5d82a2a064138059677e86a28b61f5ee3ab56822"), looks := true }, kinds := [], alts := [], laidByText := true, laidKinds := [.data, .data, .data, .data, .sentinel, .sentinel, .pinned], laidTests := true, laidLooks := .later }
def CostsTextsCardSaid : Prop := Claim7.holds Tryz.pinned (.plain (OpenSpec.ofChange costsTextsSpec)) costsTextsCard

/-- THE SECOND FORM's CARD OF 'sewershedlaw48.CostsTexts'. -/
def costsTextsUptoCard : Claim7 := { stood := { row := costsTextsUptoRow, standIns := [], harness := (true, "c0c441dab77aaef34bb07c0c5d82a2a064138059677e86a28b61f5ee3ab56822"), looks := true }, kinds := [], alts := [], laidByText := true, laidKinds := [.data, .data, .data, .data, .sentinel, .sentinel, .pinned], laidTests := true, laidLooks := .later }
def CostsTextsUptoCardSaid : Prop := Claim7.holds Tryz.pinned (.plain (OpenSpec.upto costsTextsSpec)) costsTextsUptoCard
end Rows
end Go.Proofs.YtlnlaopokelggaaGreatDoor
