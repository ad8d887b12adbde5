/-
  DERIVED. GIVEN WITH THE SEED: THE CARDS: each row of YtbmocghfpcfmhaaGreatDoorRows.lean that lists a variable, with what it lists TIED to the program's text (the seventh form; the later family's looks); each row that meets fmt, with fmt's text TOLD by the authors' own Lean function (tested against real Go, not proved from fmt's source: count such statements apart). THE CARD IS WHAT COUNTS. Prove the row's statement (the work); the ties are given (YtbmocghfpcfmhaaGreatDoorTie.lean); close each card by the builder's one call (the guide's Derived/Test/ToyasCard.lean, 'card_holds'). Laid BY PROGRAM, IN A SANDBOX (cutbox-door.mjs). By AI agents, Wed Nov 11 2026. No macro, syntax, notation, axiom, sorry.
-/
import Derived.Test.YtbmocghfpcfmhaaGreatDoorRows
import GoSem.ClaimSeven
namespace Go.Proofs.YtbmocghfpcfmhaaGreatDoor
namespace Rows

/-- THE TIED CARD OF 'sewershedlaw48.CostsTrenches'. -/
def costsTrenchesCard : Claim7 := { stood := { row := costsTrenchesRow, standIns := [], harness := (true, "1e72b6ed8c49a1e920ab92c66fb7dd987e9e2de965ad054852d9d12824ad30c9"), looks := false }, kinds := [], alts := [], laidByText := true, laidKinds := [.data, .data, .data], laidTests := true, laidLooks := .later }
def CostsTrenchesCardSaid : Prop := Claim7.holds Tryz.pinned (.plain (OpenSpec.ofChange costsTrenchesSpec)) costsTrenchesCard

/-- THE TIED CARD OF 'sewershedlaw48.CostsDeeper'. -/
def costsDeeperCard : Claim7 := { stood := { row := costsDeeperRow, standIns := [], harness := (true, "1e72b6ed8c49a1e920ab92c66fb7dd987e9e2de965ad054852d9d12824ad30c9"), looks := false }, kinds := [], alts := [], laidByText := true, laidKinds := [.data, .data, .data], laidTests := true, laidLooks := .later }
def CostsDeeperCardSaid : Prop := Claim7.holds Tryz.pinned (.plain (OpenSpec.ofChange costsDeeperSpec)) costsDeeperCard

/-- THE TIED CARD OF 'sewershedlaw48.CostsBills'. -/
def costsBillsCard : Claim7 := { stood := { row := costsBillsRow, standIns := [], harness := (true, "1e72b6ed8c49a1e920ab92c66fb7dd987e9e2de965ad054852d9d12824ad30c9"), looks := false }, kinds := [], alts := [], laidByText := true, laidKinds := [.data, .data, .data], laidTests := true, laidLooks := .later }
def CostsBillsCardSaid : Prop := Claim7.holds Tryz.pinned (.plain (OpenSpec.ofChange costsBillsSpec)) costsBillsCard

/-- THE TIED CARD OF 'sewershedlaw48.CostsAdd'. -/
def costsAddCard : Claim7 := { stood := { row := costsAddRow, standIns := [], harness := (true, "1e72b6ed8c49a1e920ab92c66fb7dd987e9e2de965ad054852d9d12824ad30c9"), looks := false }, kinds := [], alts := [], laidByText := true, laidKinds := [.data, .data, .data], laidTests := true, laidLooks := .later }
def CostsAddCardSaid : Prop := Claim7.holds Tryz.pinned (.plain (OpenSpec.ofChange costsAddSpec)) costsAddCard

/-- THE SECOND FORM's CARD OF 'sewershedlaw48.CostsTrenches'. -/
def costsTrenchesUptoCard : Claim7 := { stood := { row := costsTrenchesUptoRow, standIns := [], harness := (true, "1e72b6ed8c49a1e920ab92c66fb7dd987e9e2de965ad054852d9d12824ad30c9"), looks := false }, kinds := [], alts := [], laidByText := true, laidKinds := [.data, .data, .data], laidTests := true, laidLooks := .later }
def CostsTrenchesUptoCardSaid : Prop := Claim7.holds Tryz.pinned (.plain (OpenSpec.upto costsTrenchesSpec)) costsTrenchesUptoCard

/-- THE SECOND FORM's CARD OF 'sewershedlaw48.CostsDeeper'. -/
def costsDeeperUptoCard : Claim7 := { stood := { row := costsDeeperUptoRow, standIns := [], harness := (true, "1e72b6ed8c49a1e920ab92c66fb7dd987e9e2de965ad054852d9d12824ad30c9"), looks := false }, kinds := [], alts := [], laidByText := true, laidKinds := [.data, .data, .data], laidTests := true, laidLooks := .later }
def CostsDeeperUptoCardSaid : Prop := Claim7.holds Tryz.pinned (.plain (OpenSpec.upto costsDeeperSpec)) costsDeeperUptoCard

/-- THE SECOND FORM's CARD OF 'sewershedlaw48.CostsBills'. -/
def costsBillsUptoCard : Claim7 := { stood := { row := costsBillsUptoRow, standIns := [], harness := (true, "1e72b6ed8c49a1e920ab92c66fb7dd987e9e2de965ad054852d9d12824ad30c9"), looks := false }, kinds := [], alts := [], laidByText := true, laidKinds := [.data, .data, .data], laidTests := true, laidLooks := .later }
def CostsBillsUptoCardSaid : Prop := Claim7.holds Tryz.pinned (.plain (OpenSpec.upto costsBillsSpec)) costsBillsUptoCard

/-- THE SECOND FORM's CARD OF 'sewershedlaw48.CostsAdd'. -/
def costsAddUptoCard : Claim7 := { stood := { row := costsAddUptoRow, standIns := [], harness := (true, "1e72b6ed8c49a1e920ab92c66fb7dd987e9e2de965ad054852d9d12824ad30c9"), looks := false }, kinds := [], alts := [], laidByText := true, laidKinds := [.data, .data, .data], laidTests := true, laidLooks := .later }
def CostsAddUptoCardSaid : Prop := Claim7.holds Tryz.pinned (.plain (OpenSpec.upto costsAddSpec)) costsAddUptoCard
end Rows
end Go.Proofs.YtbmocghfpcfmhaaGreatDoor
