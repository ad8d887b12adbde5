/-
  DERIVED. GIVEN WITH THE SEED: THE CARDS: each row of YtaaadejamjbcbaaGreatDoorRows.lean that lists a variable, with what it lists TIED to the program's text (the seventh form; the later family's looks); each row that meets fmt, with fmt's text TOLD by the authors' own Lean function (tested against real Go, not proved from fmt's source: count such statements apart). THE CARD IS WHAT COUNTS. Prove the row's statement (the work); the ties are given (YtaaadejamjbcbaaGreatDoorTie.lean); close each card by the builder's one call (the guide's Derived/Test/ToyasCard.lean, 'card_holds'). Laid BY PROGRAM, IN A SANDBOX (cutbox-door.mjs). By AI agents, Wed Nov 11 2026. No macro, syntax, notation, axiom, sorry.
-/
import Derived.Test.YtaaadejamjbcbaaGreatDoorRows
import GoSem.ClaimSeven
namespace Go.Proofs.YtaaadejamjbcbaaGreatDoor
namespace Rows

/-- THE TIED CARD OF 'sewershedlaw15.LanduseChanges'. -/
def landuseChangesCard : Claim7 := { stood := { row := landuseChangesRow, standIns := [], harness := (true, "43857912ef28dbc932274d82ebb0c82b4ba99ad85a23e754662a4badee1894ee"), looks := true }, kinds := [], alts := [], laidByText := true, laidKinds := [.data, .data, .data, .data, .sentinel, .sentinel, .pinned], laidTests := true, laidLooks := .later }
def LanduseChangesCardSaid : Prop := Claim7.holds Tryz.pinned (.plain (OpenSpec.ofChange landuseChangesSpec)) landuseChangesCard

/-- THE TIED CARD OF 'sewershedlaw15.LanduseAreas'. -/
def landuseAreasCard : Claim7 := { stood := { row := landuseAreasRow, standIns := [], harness := (true, "43857912ef28dbc932274d82ebb0c82b4ba99ad85a23e754662a4badee1894ee"), looks := true }, kinds := [], alts := [], laidByText := true, laidKinds := [.data, .data, .data, .data, .sentinel, .sentinel, .pinned], laidTests := true, laidLooks := .later }
def LanduseAreasCardSaid : Prop := Claim7.holds Tryz.pinned (.plain (OpenSpec.ofChange landuseAreasSpec)) landuseAreasCard

/-- THE TIED CARD OF 'sewershedlaw15.LanduseWhole'. -/
def landuseWholeCard : Claim7 := { stood := { row := landuseWholeRow, standIns := [], harness := (true, "43857912ef28dbc932274d82ebb0c82b4ba99ad85a23e754662a4badee1894ee"), looks := true }, kinds := [], alts := [], laidByText := true, laidKinds := [.data, .data, .data, .data, .sentinel, .sentinel, .pinned], laidTests := true, laidLooks := .later }
def LanduseWholeCardSaid : Prop := Claim7.holds Tryz.pinned (.plain (OpenSpec.ofChange landuseWholeSpec)) landuseWholeCard

/-- THE SECOND FORM's CARD OF 'sewershedlaw15.LanduseChanges'. -/
def landuseChangesUptoCard : Claim7 := { stood := { row := landuseChangesUptoRow, standIns := [], harness := (true, "43857912ef28dbc932274d82ebb0c82b4ba99ad85a23e754662a4badee1894ee"), looks := true }, kinds := [], alts := [], laidByText := true, laidKinds := [.data, .data, .data, .data, .sentinel, .sentinel, .pinned], laidTests := true, laidLooks := .later }
def LanduseChangesUptoCardSaid : Prop := Claim7.holds Tryz.pinned (.plain (OpenSpec.upto landuseChangesSpec)) landuseChangesUptoCard

/-- THE SECOND FORM's CARD OF 'sewershedlaw15.LanduseAreas'. -/
def landuseAreasUptoCard : Claim7 := { stood := { row := landuseAreasUptoRow, standIns := [], harness := (true, "43857912ef28dbc932274d82ebb0c82b4ba99ad85a23e754662a4badee1894ee"), looks := true }, kinds := [], alts := [], laidByText := true, laidKinds := [.data, .data, .data, .data, .sentinel, .sentinel, .pinned], laidTests := true, laidLooks := .later }
def LanduseAreasUptoCardSaid : Prop := Claim7.holds Tryz.pinned (.plain (OpenSpec.upto landuseAreasSpec)) landuseAreasUptoCard

/-- THE SECOND FORM's CARD OF 'sewershedlaw15.LanduseWhole'. -/
def landuseWholeUptoCard : Claim7 := { stood := { row := landuseWholeUptoRow, standIns := [], harness := (true, "43857912ef28dbc932274d82ebb0c82b4ba99ad85a23e754662a4badee1894ee"), looks := true }, kinds := [], alts := [], laidByText := true, laidKinds := [.data, .data, .data, .data, .sentinel, .sentinel, .pinned], laidTests := true, laidLooks := .later }
def LanduseWholeUptoCardSaid : Prop := Claim7.holds Tryz.pinned (.plain (OpenSpec.upto landuseWholeSpec)) landuseWholeUptoCard
end Rows
end Go.Proofs.YtaaadejamjbcbaaGreatDoor
