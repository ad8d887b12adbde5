/-
  DERIVED. GIVEN WITH THE SEED: THE CARDS: each row of YtaaadejamjbcbaaDoorRows.lean that lists a variable, with what it lists TIED to the program's text (the seventh form; the later family's looks); each row that meets fmt, with fmt's text TOLD by the authors' own Lean function (tested against real Go, not proved from fmt's source: count such statements apart). THE CARD IS WHAT COUNTS. Prove the row's statement (the work); the ties are given (YtaaadejamjbcbaaDoorTie.lean); close each card by the builder's one call (the guide's Derived/Test/ToyasCard.lean, 'card_holds'). Laid BY PROGRAM, IN A SANDBOX (cutbox-door.mjs). By AI agents, Wed Nov 11 2026. No macro, syntax, notation, axiom, sorry.
-/
import Derived.Test.YtaaadejamjbcbaaDoorRows
import GoSem.ClaimSeven
namespace Go.Proofs.YtaaadejamjbcbaaDoor
namespace Rows

/-- THE TIED CARD OF 'sewershedlaw15.LanduseMetres'. -/
def landuseMetresCard : Claim7 := { stood := { row := landuseMetresRow, standIns := [], harness := (true, "98e06f063262c816a5bd65f071e7acb84974cb66e73c55aa0969db40f4167805"), looks := true }, kinds := [], alts := [], laidByText := true, laidKinds := [.data, .data, .data, .data, .sentinel, .sentinel, .pinned], laidTests := true, laidLooks := .later }
def LanduseMetresCardSaid : Prop := Claim7.holds Tryd.pinned (.plain (OpenSpec.ofChange landuseMetresSpec)) landuseMetresCard

/-- THE TIED CARD OF 'sewershedlaw15.LanduseParts'. -/
def landusePartsCard : Claim7 := { stood := { row := landusePartsRow, standIns := [], harness := (true, "98e06f063262c816a5bd65f071e7acb84974cb66e73c55aa0969db40f4167805"), looks := true }, kinds := [], alts := [], laidByText := true, laidKinds := [.data, .data, .data, .data, .sentinel, .sentinel, .pinned], laidTests := true, laidLooks := .later }
def LandusePartsCardSaid : Prop := Claim7.holds Tryd.pinned (.plain (OpenSpec.ofChange landusePartsSpec)) landusePartsCard

/-- THE TIED CARD OF 'sewershedlaw15.LanduseLists'. -/
def landuseListsCard : Claim7 := { stood := { row := landuseListsRow, standIns := [], harness := (true, "98e06f063262c816a5bd65f071e7acb84974cb66e73c55aa0969db40f4167805"), looks := true }, kinds := [], alts := [], laidByText := true, laidKinds := [.data, .data, .data, .data, .sentinel, .sentinel, .pinned], laidTests := true, laidLooks := .later }
def LanduseListsCardSaid : Prop := Claim7.holds Tryd.pinned (.plain (OpenSpec.ofChange landuseListsSpec)) landuseListsCard

/-- THE TIED CARD OF 'sewershedlaw15.LanduseTexts'. -/
def landuseTextsCard : Claim7 := { stood := { row := landuseTextsRow, standIns := [], harness := (true, "98e06f063262c816a5bd65f071e7acb84974cb66e73c55aa0969db40f4167805"), looks := true }, kinds := [], alts := [], laidByText := true, laidKinds := [.data, .data, .data, .data, .sentinel, .sentinel, .pinned], laidTests := true, laidLooks := .later }
def LanduseTextsCardSaid : Prop := Claim7.holds Tryd.pinned (.plain (OpenSpec.ofChange landuseTextsSpec)) landuseTextsCard

/-- THE TIED CARD OF 'sewershedlaw15.LanduseBack'. -/
def landuseBackCard : Claim7 := { stood := { row := landuseBackRow, standIns := [], harness := (true, "98e06f063262c816a5bd65f071e7acb84974cb66e73c55aa0969db40f4167805"), looks := true }, kinds := [], alts := [], laidByText := true, laidKinds := [.data, .data, .data, .data, .sentinel, .sentinel, .pinned], laidTests := true, laidLooks := .later }
def LanduseBackCardSaid : Prop := Claim7.holds Tryd.pinned (.plain (OpenSpec.ofChange landuseBackSpec)) landuseBackCard

/-- THE SECOND FORM's CARD OF 'sewershedlaw15.LanduseMetres'. -/
def landuseMetresUptoCard : Claim7 := { stood := { row := landuseMetresUptoRow, standIns := [], harness := (true, "98e06f063262c816a5bd65f071e7acb84974cb66e73c55aa0969db40f4167805"), looks := true }, kinds := [], alts := [], laidByText := true, laidKinds := [.data, .data, .data, .data, .sentinel, .sentinel, .pinned], laidTests := true, laidLooks := .later }
def LanduseMetresUptoCardSaid : Prop := Claim7.holds Tryd.pinned (.plain (OpenSpec.upto landuseMetresSpec)) landuseMetresUptoCard

/-- THE SECOND FORM's CARD OF 'sewershedlaw15.LanduseParts'. -/
def landusePartsUptoCard : Claim7 := { stood := { row := landusePartsUptoRow, standIns := [], harness := (true, "98e06f063262c816a5bd65f071e7acb84974cb66e73c55aa0969db40f4167805"), looks := true }, kinds := [], alts := [], laidByText := true, laidKinds := [.data, .data, .data, .data, .sentinel, .sentinel, .pinned], laidTests := true, laidLooks := .later }
def LandusePartsUptoCardSaid : Prop := Claim7.holds Tryd.pinned (.plain (OpenSpec.upto landusePartsSpec)) landusePartsUptoCard

/-- THE SECOND FORM's CARD OF 'sewershedlaw15.LanduseLists'. -/
def landuseListsUptoCard : Claim7 := { stood := { row := landuseListsUptoRow, standIns := [], harness := (true, "98e06f063262c816a5bd65f071e7acb84974cb66e73c55aa0969db40f4167805"), looks := true }, kinds := [], alts := [], laidByText := true, laidKinds := [.data, .data, .data, .data, .sentinel, .sentinel, .pinned], laidTests := true, laidLooks := .later }
def LanduseListsUptoCardSaid : Prop := Claim7.holds Tryd.pinned (.plain (OpenSpec.upto landuseListsSpec)) landuseListsUptoCard

/-- THE SECOND FORM's CARD OF 'sewershedlaw15.LanduseTexts'. -/
def landuseTextsUptoCard : Claim7 := { stood := { row := landuseTextsUptoRow, standIns := [], harness := (true, "98e06f063262c816a5bd65f071e7acb84974cb66e73c55aa0969db40f4167805"), looks := true }, kinds := [], alts := [], laidByText := true, laidKinds := [.data, .data, .data, .data, .sentinel, .sentinel, .pinned], laidTests := true, laidLooks := .later }
def LanduseTextsUptoCardSaid : Prop := Claim7.holds Tryd.pinned (.plain (OpenSpec.upto landuseTextsSpec)) landuseTextsUptoCard

/-- THE SECOND FORM's CARD OF 'sewershedlaw15.LanduseBack'. -/
def landuseBackUptoCard : Claim7 := { stood := { row := landuseBackUptoRow, standIns := [], harness := (true, "98e06f063262c816a5bd65f071e7acb84974cb66e73c55aa0969db40f4167805"), looks := true }, kinds := [], alts := [], laidByText := true, laidKinds := [.data, .data, .data, .data, .sentinel, .sentinel, .pinned], laidTests := true, laidLooks := .later }
def LanduseBackUptoCardSaid : Prop := Claim7.holds Tryd.pinned (.plain (OpenSpec.upto landuseBackSpec)) landuseBackUptoCard
end Rows
end Go.Proofs.YtaaadejamjbcbaaDoor
