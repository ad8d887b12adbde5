/-
  DERIVED. GIVEN WITH THE SEED: THE CARDS: each row of YtnhimgabcljahaaDoorRows.lean that lists a variable, with what it lists TIED to the program's text (the seventh form; the later family's looks); each row that meets fmt, with fmt's text TOLD by the authors' own Lean function (tested against real Go, not proved from fmt's source: count such statements apart). THE CARD IS WHAT COUNTS. Prove the row's statement (the work); the ties are given (YtnhimgabcljahaaDoorTie.lean); close each card by the builder's one call (the guide's Derived/Test/ToyasCard.lean, 'card_holds'). Laid BY PROGRAM, IN A SANDBOX (cutbox-door.mjs). By AI agents, Wed Nov 11 2026. No macro, syntax, notation, axiom, sorry.
-/
import Derived.Test.YtnhimgabcljahaaDoorRows
import GoSem.ClaimSeven
namespace Go.Proofs.YtnhimgabcljahaaDoor
namespace Rows

/-- THE TIED CARD OF 'sewershedlaw19.IntensityRead'. -/
def intensityReadCard : Claim7 := { stood := { row := intensityReadRow, standIns := [], harness := (true, "bb11a90c1bf01dc06182bbef20c15f896fc905139c026da5de69e1df6b440d1e"), looks := true }, kinds := [], alts := [], laidByText := true, laidKinds := [.data, .data, .data, .data, .sentinel, .sentinel, .pinned], laidTests := true, laidLooks := .later }
def IntensityReadCardSaid : Prop := Claim7.holds Tryd.pinned (.plain (OpenSpec.ofChange intensityReadSpec)) intensityReadCard

/-- THE SECOND FORM's CARD OF 'sewershedlaw19.IntensityRead'. -/
def intensityReadUptoCard : Claim7 := { stood := { row := intensityReadUptoRow, standIns := [], harness := (true, "bb11a90c1bf01dc06182bbef20c15f896fc905139c026da5de69e1df6b440d1e"), looks := true }, kinds := [], alts := [], laidByText := true, laidKinds := [.data, .data, .data, .data, .sentinel, .sentinel, .pinned], laidTests := true, laidLooks := .later }
def IntensityReadUptoCardSaid : Prop := Claim7.holds Tryd.pinned (.plain (OpenSpec.upto intensityReadSpec)) intensityReadUptoCard
end Rows
end Go.Proofs.YtnhimgabcljahaaDoor
