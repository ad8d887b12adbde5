/-
  DERIVED. GIVEN WITH THE SEED: THE CARDS: each row of YtbmckddjdkjplaaDoorRows.lean that lists a variable, with what it lists TIED to the program's text (the seventh form; the later family's looks); each row that meets fmt, with fmt's text TOLD by the authors' own Lean function (tested against real Go, not proved from fmt's source: count such statements apart). THE CARD IS WHAT COUNTS. Prove the row's statement (the work); the ties are given (YtbmckddjdkjplaaDoorTie.lean); close each card by the builder's one call (the guide's Derived/Test/ToyasCard.lean, 'card_holds'). Laid BY PROGRAM, IN A SANDBOX (cutbox-door.mjs). By AI agents, Wed Nov 11 2026. No macro, syntax, notation, axiom, sorry.
-/
import Derived.Test.YtbmckddjdkjplaaDoorRows
import GoSem.ClaimSeven
namespace Go.Proofs.YtbmckddjdkjplaaDoor
namespace Rows

/-- THE TIED CARD OF 'sewershedlaw02.RatioMakes'. -/
def ratioMakesCard : Claim7 := { stood := { row := ratioMakesRow, standIns := [], harness := (true, "864d163b5cbcb9ba8158a2d986a258272806d1422e22fc36c5d031f11291f611"), looks := true }, kinds := [], alts := [], laidByText := true, laidKinds := [.data, .data, .data], laidTests := true, laidLooks := .later }
def RatioMakesCardSaid : Prop := Claim7.holds Tryd.pinned (.plain (OpenSpec.ofChange ratioMakesSpec)) ratioMakesCard

/-- THE TIED CARD OF 'sewershedlaw02.RatioShares'. -/
def ratioSharesCard : Claim7 := { stood := { row := ratioSharesRow, standIns := [], harness := (true, "864d163b5cbcb9ba8158a2d986a258272806d1422e22fc36c5d031f11291f611"), looks := true }, kinds := [], alts := [], laidByText := true, laidKinds := [.data, .data, .data], laidTests := true, laidLooks := .later }
def RatioSharesCardSaid : Prop := Claim7.holds Tryd.pinned (.plain (OpenSpec.ofChange ratioSharesSpec)) ratioSharesCard

/-- THE TIED CARD OF 'sewershedlaw02.RatioAddsUp'. -/
def ratioAddsUpCard : Claim7 := { stood := { row := ratioAddsUpRow, standIns := [], harness := (true, "864d163b5cbcb9ba8158a2d986a258272806d1422e22fc36c5d031f11291f611"), looks := true }, kinds := [], alts := [], laidByText := true, laidKinds := [.data, .data, .data], laidTests := true, laidLooks := .later }
def RatioAddsUpCardSaid : Prop := Claim7.holds Tryd.pinned (.plain (OpenSpec.ofChange ratioAddsUpSpec)) ratioAddsUpCard

/-- THE TIED CARD OF 'sewershedlaw02.RatioOrders'. -/
def ratioOrdersCard : Claim7 := { stood := { row := ratioOrdersRow, standIns := [], harness := (true, "864d163b5cbcb9ba8158a2d986a258272806d1422e22fc36c5d031f11291f611"), looks := true }, kinds := [], alts := [], laidByText := true, laidKinds := [.data, .data, .data], laidTests := true, laidLooks := .later }
def RatioOrdersCardSaid : Prop := Claim7.holds Tryd.pinned (.plain (OpenSpec.ofChange ratioOrdersSpec)) ratioOrdersCard

/-- THE TIED CARD OF 'sewershedlaw02.RatioRing'. -/
def ratioRingCard : Claim7 := { stood := { row := ratioRingRow, standIns := [], harness := (true, "864d163b5cbcb9ba8158a2d986a258272806d1422e22fc36c5d031f11291f611"), looks := true }, kinds := [], alts := [], laidByText := true, laidKinds := [.data, .data, .data], laidTests := true, laidLooks := .later }
def RatioRingCardSaid : Prop := Claim7.holds Tryd.pinned (.plain (OpenSpec.ofChange ratioRingSpec)) ratioRingCard

/-- THE TIED CARD OF 'sewershedlaw02.RatioSums'. -/
def ratioSumsCard : Claim7 := { stood := { row := ratioSumsRow, standIns := [], harness := (true, "864d163b5cbcb9ba8158a2d986a258272806d1422e22fc36c5d031f11291f611"), looks := true }, kinds := [], alts := [], laidByText := true, laidKinds := [.data, .data, .data], laidTests := true, laidLooks := .later }
def RatioSumsCardSaid : Prop := Claim7.holds Tryd.pinned (.plain (OpenSpec.ofChange ratioSumsSpec)) ratioSumsCard

/-- THE TIED CARD OF 'sewershedlaw02.RatioUndoes'. -/
def ratioUndoesCard : Claim7 := { stood := { row := ratioUndoesRow, standIns := [], harness := (true, "864d163b5cbcb9ba8158a2d986a258272806d1422e22fc36c5d031f11291f611"), looks := true }, kinds := [], alts := [], laidByText := true, laidKinds := [.data, .data, .data], laidTests := true, laidLooks := .later }
def RatioUndoesCardSaid : Prop := Claim7.holds Tryd.pinned (.plain (OpenSpec.ofChange ratioUndoesSpec)) ratioUndoesCard

/-- THE TIED CARD OF 'sewershedlaw02.RatioGrows'. -/
def ratioGrowsCard : Claim7 := { stood := { row := ratioGrowsRow, standIns := [], harness := (true, "864d163b5cbcb9ba8158a2d986a258272806d1422e22fc36c5d031f11291f611"), looks := true }, kinds := [], alts := [], laidByText := true, laidKinds := [.data, .data, .data], laidTests := true, laidLooks := .later }
def RatioGrowsCardSaid : Prop := Claim7.holds Tryd.pinned (.plain (OpenSpec.ofChange ratioGrowsSpec)) ratioGrowsCard

/-- THE TIED CARD OF 'sewershedlaw02.RatioSplits'. -/
def ratioSplitsCard : Claim7 := { stood := { row := ratioSplitsRow, standIns := [], harness := (true, "864d163b5cbcb9ba8158a2d986a258272806d1422e22fc36c5d031f11291f611"), looks := true }, kinds := [], alts := [], laidByText := true, laidKinds := [.data, .data, .data], laidTests := true, laidLooks := .later }
def RatioSplitsCardSaid : Prop := Claim7.holds Tryd.pinned (.plain (OpenSpec.ofChange ratioSplitsSpec)) ratioSplitsCard

/-- THE TIED CARD OF 'sewershedlaw02.RatioTexts'. -/
def ratioTextsCard : Claim7 := { stood := { row := ratioTextsRow, standIns := [], harness := (true, "864d163b5cbcb9ba8158a2d986a258272806d1422e22fc36c5d031f11291f611"), looks := true }, kinds := [], alts := [], laidByText := true, laidKinds := [.data, .data, .data, .sentinel, .sentinel], laidTests := true, laidLooks := .later }
def RatioTextsCardSaid : Prop := Claim7.holds Tryd.pinned (.plain (OpenSpec.ofChange ratioTextsSpec)) ratioTextsCard

/-- THE SECOND FORM's CARD OF 'sewershedlaw02.RatioMakes'. -/
def ratioMakesUptoCard : Claim7 := { stood := { row := ratioMakesUptoRow, standIns := [], harness := (true, "864d163b5cbcb9ba8158a2d986a258272806d1422e22fc36c5d031f11291f611"), looks := true }, kinds := [], alts := [], laidByText := true, laidKinds := [.data, .data, .data], laidTests := true, laidLooks := .later }
def RatioMakesUptoCardSaid : Prop := Claim7.holds Tryd.pinned (.plain (OpenSpec.upto ratioMakesSpec)) ratioMakesUptoCard

/-- THE SECOND FORM's CARD OF 'sewershedlaw02.RatioShares'. -/
def ratioSharesUptoCard : Claim7 := { stood := { row := ratioSharesUptoRow, standIns := [], harness := (true, "864d163b5cbcb9ba8158a2d986a258272806d1422e22fc36c5d031f11291f611"), looks := true }, kinds := [], alts := [], laidByText := true, laidKinds := [.data, .data, .data], laidTests := true, laidLooks := .later }
def RatioSharesUptoCardSaid : Prop := Claim7.holds Tryd.pinned (.plain (OpenSpec.upto ratioSharesSpec)) ratioSharesUptoCard

/-- THE SECOND FORM's CARD OF 'sewershedlaw02.RatioAddsUp'. -/
def ratioAddsUpUptoCard : Claim7 := { stood := { row := ratioAddsUpUptoRow, standIns := [], harness := (true, "864d163b5cbcb9ba8158a2d986a258272806d1422e22fc36c5d031f11291f611"), looks := true }, kinds := [], alts := [], laidByText := true, laidKinds := [.data, .data, .data], laidTests := true, laidLooks := .later }
def RatioAddsUpUptoCardSaid : Prop := Claim7.holds Tryd.pinned (.plain (OpenSpec.upto ratioAddsUpSpec)) ratioAddsUpUptoCard

/-- THE SECOND FORM's CARD OF 'sewershedlaw02.RatioOrders'. -/
def ratioOrdersUptoCard : Claim7 := { stood := { row := ratioOrdersUptoRow, standIns := [], harness := (true, "864d163b5cbcb9ba8158a2d986a258272806d1422e22fc36c5d031f11291f611"), looks := true }, kinds := [], alts := [], laidByText := true, laidKinds := [.data, .data, .data], laidTests := true, laidLooks := .later }
def RatioOrdersUptoCardSaid : Prop := Claim7.holds Tryd.pinned (.plain (OpenSpec.upto ratioOrdersSpec)) ratioOrdersUptoCard

/-- THE SECOND FORM's CARD OF 'sewershedlaw02.RatioRing'. -/
def ratioRingUptoCard : Claim7 := { stood := { row := ratioRingUptoRow, standIns := [], harness := (true, "864d163b5cbcb9ba8158a2d986a258272806d1422e22fc36c5d031f11291f611"), looks := true }, kinds := [], alts := [], laidByText := true, laidKinds := [.data, .data, .data], laidTests := true, laidLooks := .later }
def RatioRingUptoCardSaid : Prop := Claim7.holds Tryd.pinned (.plain (OpenSpec.upto ratioRingSpec)) ratioRingUptoCard

/-- THE SECOND FORM's CARD OF 'sewershedlaw02.RatioSums'. -/
def ratioSumsUptoCard : Claim7 := { stood := { row := ratioSumsUptoRow, standIns := [], harness := (true, "864d163b5cbcb9ba8158a2d986a258272806d1422e22fc36c5d031f11291f611"), looks := true }, kinds := [], alts := [], laidByText := true, laidKinds := [.data, .data, .data], laidTests := true, laidLooks := .later }
def RatioSumsUptoCardSaid : Prop := Claim7.holds Tryd.pinned (.plain (OpenSpec.upto ratioSumsSpec)) ratioSumsUptoCard

/-- THE SECOND FORM's CARD OF 'sewershedlaw02.RatioUndoes'. -/
def ratioUndoesUptoCard : Claim7 := { stood := { row := ratioUndoesUptoRow, standIns := [], harness := (true, "864d163b5cbcb9ba8158a2d986a258272806d1422e22fc36c5d031f11291f611"), looks := true }, kinds := [], alts := [], laidByText := true, laidKinds := [.data, .data, .data], laidTests := true, laidLooks := .later }
def RatioUndoesUptoCardSaid : Prop := Claim7.holds Tryd.pinned (.plain (OpenSpec.upto ratioUndoesSpec)) ratioUndoesUptoCard

/-- THE SECOND FORM's CARD OF 'sewershedlaw02.RatioGrows'. -/
def ratioGrowsUptoCard : Claim7 := { stood := { row := ratioGrowsUptoRow, standIns := [], harness := (true, "864d163b5cbcb9ba8158a2d986a258272806d1422e22fc36c5d031f11291f611"), looks := true }, kinds := [], alts := [], laidByText := true, laidKinds := [.data, .data, .data], laidTests := true, laidLooks := .later }
def RatioGrowsUptoCardSaid : Prop := Claim7.holds Tryd.pinned (.plain (OpenSpec.upto ratioGrowsSpec)) ratioGrowsUptoCard

/-- THE SECOND FORM's CARD OF 'sewershedlaw02.RatioSplits'. -/
def ratioSplitsUptoCard : Claim7 := { stood := { row := ratioSplitsUptoRow, standIns := [], harness := (true, "864d163b5cbcb9ba8158a2d986a258272806d1422e22fc36c5d031f11291f611"), looks := true }, kinds := [], alts := [], laidByText := true, laidKinds := [.data, .data, .data], laidTests := true, laidLooks := .later }
def RatioSplitsUptoCardSaid : Prop := Claim7.holds Tryd.pinned (.plain (OpenSpec.upto ratioSplitsSpec)) ratioSplitsUptoCard

/-- THE SECOND FORM's CARD OF 'sewershedlaw02.RatioTexts'. -/
def ratioTextsUptoCard : Claim7 := { stood := { row := ratioTextsUptoRow, standIns := [], harness := (true, "864d163b5cbcb9ba8158a2d986a258272806d1422e22fc36c5d031f11291f611"), looks := true }, kinds := [], alts := [], laidByText := true, laidKinds := [.data, .data, .data, .sentinel, .sentinel], laidTests := true, laidLooks := .later }
def RatioTextsUptoCardSaid : Prop := Claim7.holds Tryd.pinned (.plain (OpenSpec.upto ratioTextsSpec)) ratioTextsUptoCard
end Rows
end Go.Proofs.YtbmckddjdkjplaaDoor
