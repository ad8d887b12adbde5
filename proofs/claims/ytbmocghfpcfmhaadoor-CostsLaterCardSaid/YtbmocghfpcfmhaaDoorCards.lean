/-
  DERIVED. GIVEN WITH THE SEED: THE CARDS: each row of YtbmocghfpcfmhaaDoorRows.lean that lists a variable, with what it lists TIED to the program's text (the seventh form; the later family's looks); each row that meets fmt, with fmt's text TOLD by the authors' own Lean function (tested against real Go, not proved from fmt's source: count such statements apart). THE CARD IS WHAT COUNTS. Prove the row's statement (the work); the ties are given (YtbmocghfpcfmhaaDoorTie.lean); close each card by the builder's one call (the guide's Derived/Test/ToyasCard.lean, 'card_holds'). Laid BY PROGRAM, IN A SANDBOX (cutbox-door.mjs). By AI agents, Wed Nov 11 2026. No macro, syntax, notation, axiom, sorry.
-/
import Derived.Test.YtbmocghfpcfmhaaDoorRows
import GoSem.ClaimSeven
namespace Go.Proofs.YtbmocghfpcfmhaaDoor
namespace Rows

/-- THE TIED CARD OF 'sewershedlaw48.CostsLater'. -/
def costsLaterCard : Claim7 := { stood := { row := costsLaterRow, standIns := [], harness := (true, "4cb66d4b09aae3bb24741db0ad4e32c7e78c88e21336c182954fd2bf7b67c205"), looks := false }, kinds := [], alts := [], laidByText := true, laidKinds := [.data, .data, .data], laidTests := true, laidLooks := .later }
def CostsLaterCardSaid : Prop := Claim7.holds Tryd.pinned (.plain (OpenSpec.ofChange costsLaterSpec)) costsLaterCard

/-- THE SECOND FORM's CARD OF 'sewershedlaw48.CostsLater'. -/
def costsLaterUptoCard : Claim7 := { stood := { row := costsLaterUptoRow, standIns := [], harness := (true, "4cb66d4b09aae3bb24741db0ad4e32c7e78c88e21336c182954fd2bf7b67c205"), looks := false }, kinds := [], alts := [], laidByText := true, laidKinds := [.data, .data, .data], laidTests := true, laidLooks := .later }
def CostsLaterUptoCardSaid : Prop := Claim7.holds Tryd.pinned (.plain (OpenSpec.upto costsLaterSpec)) costsLaterUptoCard
end Rows
end Go.Proofs.YtbmocghfpcfmhaaDoor
