/-
  DERIVED. GIVEN WITH THE SEED: THE CARDS: each row of YtdcdfjinbieblaaGreatDoorRows.lean that lists a variable, with what it lists TIED to the program's text (the seventh form; the later family's looks); each row that meets fmt, with fmt's text TOLD by the authors' own Lean function (tested against real Go, not proved from fmt's source: count such statements apart). THE CARD IS WHAT COUNTS. Prove the row's statement (the work); the ties are given (YtdcdfjinbieblaaGreatDoorTie.lean); close each card by the builder's one call (the guide's Derived/Test/ToyasCard.lean, 'card_holds'). Laid BY PROGRAM, IN A SANDBOX (cutbox-door.mjs). By AI agents, Wed Nov 11 2026. No macro, syntax, notation, axiom, sorry.
-/
import Derived.Test.YtdcdfjinbieblaaGreatDoorRows
import GoSem.ClaimSeven
namespace Go.Proofs.YtdcdfjinbieblaaGreatDoor
namespace Rows

/-- THE TIED CARD OF 'sewershedlaw48.CostsPipes'. -/
def costsPipesCard : Claim7 := { stood := { row := costsPipesRow, standIns := [], harness := (true, "ea56148b3fe5a3173fae382ae0bb1c7447d133ac489168c70024a8b72fdf1472"), looks := false }, kinds := [], alts := [], laidByText := true, laidKinds := [.data, .data, .data], laidTests := true, laidLooks := .later }
def CostsPipesCardSaid : Prop := Claim7.holds Tryz.pinned (.plain (OpenSpec.ofChange costsPipesSpec)) costsPipesCard

/-- THE TIED CARD OF 'sewershedlaw48.CostsLengths'. -/
def costsLengthsCard : Claim7 := { stood := { row := costsLengthsRow, standIns := [], harness := (true, "ea56148b3fe5a3173fae382ae0bb1c7447d133ac489168c70024a8b72fdf1472"), looks := false }, kinds := [], alts := [], laidByText := true, laidKinds := [.data, .data, .data], laidTests := true, laidLooks := .later }
def CostsLengthsCardSaid : Prop := Claim7.holds Tryz.pinned (.plain (OpenSpec.ofChange costsLengthsSpec)) costsLengthsCard

/-- THE SECOND FORM's CARD OF 'sewershedlaw48.CostsPipes'. -/
def costsPipesUptoCard : Claim7 := { stood := { row := costsPipesUptoRow, standIns := [], harness := (true, "ea56148b3fe5a3173fae382ae0bb1c7447d133ac489168c70024a8b72fdf1472"), looks := false }, kinds := [], alts := [], laidByText := true, laidKinds := [.data, .data, .data], laidTests := true, laidLooks := .later }
def CostsPipesUptoCardSaid : Prop := Claim7.holds Tryz.pinned (.plain (OpenSpec.upto costsPipesSpec)) costsPipesUptoCard

/-- THE SECOND FORM's CARD OF 'sewershedlaw48.CostsLengths'. -/
def costsLengthsUptoCard : Claim7 := { stood := { row := costsLengthsUptoRow, standIns := [], harness := (true, "ea56148b3fe5a3173fae382ae0bb1c7447d133ac489168c70024a8b72fdf1472"), looks := false }, kinds := [], alts := [], laidByText := true, laidKinds := [.data, .data, .data], laidTests := true, laidLooks := .later }
def CostsLengthsUptoCardSaid : Prop := Claim7.holds Tryz.pinned (.plain (OpenSpec.upto costsLengthsSpec)) costsLengthsUptoCard
end Rows
end Go.Proofs.YtdcdfjinbieblaaGreatDoor
