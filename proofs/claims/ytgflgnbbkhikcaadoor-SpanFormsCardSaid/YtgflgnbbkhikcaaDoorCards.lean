/-
  DERIVED. GIVEN WITH THE SEED: THE CARDS: each row of YtgflgnbbkhikcaaDoorRows.lean that lists a variable, with what it lists TIED to the program's text (the seventh form; the later family's looks); each row that meets fmt, with fmt's text TOLD by the authors' own Lean function (tested against real Go, not proved from fmt's source: count such statements apart). THE CARD IS WHAT COUNTS. Prove the row's statement (the work); the ties are given (YtgflgnbbkhikcaaDoorTie.lean); close each card by the builder's one call (the guide's Derived/Test/ToyasCard.lean, 'card_holds'). Laid BY PROGRAM, IN A SANDBOX (cutbox-door.mjs). By AI agents, Wed Nov 11 2026. No macro, syntax, notation, axiom, sorry.
-/
import Derived.Test.YtgflgnbbkhikcaaDoorRows
import GoSem.ClaimSeven
namespace Go.Proofs.YtgflgnbbkhikcaaDoor
namespace Rows

/-- THE TIED CARD OF 'sewershedlaw04.SpanProducts'. -/
def spanProductsCard : Claim7 := { stood := { row := spanProductsRow, standIns := [], harness := (true, "431e3b5ea91b610d8c1ecdcfcd6ed4582ecd12d4f688e2810f3eb69eed2e1684"), looks := true }, kinds := [], alts := [], laidByText := true, laidKinds := [.data, .data, .data], laidTests := true, laidLooks := .later }
def SpanProductsCardSaid : Prop := Claim7.holds Tryd.pinned (.plain (OpenSpec.ofChange spanProductsSpec)) spanProductsCard

/-- THE TIED CARD OF 'sewershedlaw04.SpanQuotients'. -/
def spanQuotientsCard : Claim7 := { stood := { row := spanQuotientsRow, standIns := [], harness := (true, "431e3b5ea91b610d8c1ecdcfcd6ed4582ecd12d4f688e2810f3eb69eed2e1684"), looks := true }, kinds := [], alts := [], laidByText := true, laidKinds := [.data, .data, .data], laidTests := true, laidLooks := .later }
def SpanQuotientsCardSaid : Prop := Claim7.holds Tryd.pinned (.plain (OpenSpec.ofChange spanQuotientsSpec)) spanQuotientsCard

/-- THE TIED CARD OF 'sewershedlaw04.SpanPoints'. -/
def spanPointsCard : Claim7 := { stood := { row := spanPointsRow, standIns := [], harness := (true, "431e3b5ea91b610d8c1ecdcfcd6ed4582ecd12d4f688e2810f3eb69eed2e1684"), looks := true }, kinds := [], alts := [], laidByText := true, laidKinds := [.data, .data, .data], laidTests := true, laidLooks := .later }
def SpanPointsCardSaid : Prop := Claim7.holds Tryd.pinned (.plain (OpenSpec.ofChange spanPointsSpec)) spanPointsCard

/-- THE TIED CARD OF 'sewershedlaw04.SpanLeast'. -/
def spanLeastCard : Claim7 := { stood := { row := spanLeastRow, standIns := [], harness := (true, "431e3b5ea91b610d8c1ecdcfcd6ed4582ecd12d4f688e2810f3eb69eed2e1684"), looks := true }, kinds := [], alts := [], laidByText := true, laidKinds := [.data, .data, .data], laidTests := true, laidLooks := .later }
def SpanLeastCardSaid : Prop := Claim7.holds Tryd.pinned (.plain (OpenSpec.ofChange spanLeastSpec)) spanLeastCard

/-- THE TIED CARD OF 'sewershedlaw04.SpanUndo'. -/
def spanUndoCard : Claim7 := { stood := { row := spanUndoRow, standIns := [], harness := (true, "431e3b5ea91b610d8c1ecdcfcd6ed4582ecd12d4f688e2810f3eb69eed2e1684"), looks := true }, kinds := [], alts := [], laidByText := true, laidKinds := [.data, .data, .data], laidTests := true, laidLooks := .later }
def SpanUndoCardSaid : Prop := Claim7.holds Tryd.pinned (.plain (OpenSpec.ofChange spanUndoSpec)) spanUndoCard

/-- THE TIED CARD OF 'sewershedlaw04.SpanSets'. -/
def spanSetsCard : Claim7 := { stood := { row := spanSetsRow, standIns := [], harness := (true, "431e3b5ea91b610d8c1ecdcfcd6ed4582ecd12d4f688e2810f3eb69eed2e1684"), looks := true }, kinds := [], alts := [], laidByText := true, laidKinds := [.data, .data, .data], laidTests := true, laidLooks := .later }
def SpanSetsCardSaid : Prop := Claim7.holds Tryd.pinned (.plain (OpenSpec.ofChange spanSetsSpec)) spanSetsCard

/-- THE TIED CARD OF 'sewershedlaw04.SpanSums'. -/
def spanSumsCard : Claim7 := { stood := { row := spanSumsRow, standIns := [], harness := (true, "431e3b5ea91b610d8c1ecdcfcd6ed4582ecd12d4f688e2810f3eb69eed2e1684"), looks := true }, kinds := [], alts := [], laidByText := true, laidKinds := [.data, .data, .data], laidTests := true, laidLooks := .later }
def SpanSumsCardSaid : Prop := Claim7.holds Tryd.pinned (.plain (OpenSpec.ofChange spanSumsSpec)) spanSumsCard

/-- THE TIED CARD OF 'sewershedlaw04.SpanForms'. -/
def spanFormsCard : Claim7 := { stood := { row := spanFormsRow, standIns := [], harness := (true, "431e3b5ea91b610d8c1ecdcfcd6ed4582ecd12d4f688e2810f3eb69eed2e1684"), looks := true }, kinds := [], alts := [], laidByText := true, laidKinds := [.data, .data, .data, .sentinel, .sentinel], laidTests := true, laidLooks := .later }
def SpanFormsCardSaid : Prop := Claim7.holds Tryd.pinned (.plain (OpenSpec.ofChange spanFormsSpec)) spanFormsCard

/-- THE SECOND FORM's CARD OF 'sewershedlaw04.SpanProducts'. -/
def spanProductsUptoCard : Claim7 := { stood := { row := spanProductsUptoRow, standIns := [], harness := (true, "431e3b5ea91b610d8c1ecdcfcd6ed4582ecd12d4f688e2810f3eb69eed2e1684"), looks := true }, kinds := [], alts := [], laidByText := true, laidKinds := [.data, .data, .data], laidTests := true, laidLooks := .later }
def SpanProductsUptoCardSaid : Prop := Claim7.holds Tryd.pinned (.plain (OpenSpec.upto spanProductsSpec)) spanProductsUptoCard

/-- THE SECOND FORM's CARD OF 'sewershedlaw04.SpanQuotients'. -/
def spanQuotientsUptoCard : Claim7 := { stood := { row := spanQuotientsUptoRow, standIns := [], harness := (true, "431e3b5ea91b610d8c1ecdcfcd6ed4582ecd12d4f688e2810f3eb69eed2e1684"), looks := true }, kinds := [], alts := [], laidByText := true, laidKinds := [.data, .data, .data], laidTests := true, laidLooks := .later }
def SpanQuotientsUptoCardSaid : Prop := Claim7.holds Tryd.pinned (.plain (OpenSpec.upto spanQuotientsSpec)) spanQuotientsUptoCard

/-- THE SECOND FORM's CARD OF 'sewershedlaw04.SpanPoints'. -/
def spanPointsUptoCard : Claim7 := { stood := { row := spanPointsUptoRow, standIns := [], harness := (true, "431e3b5ea91b610d8c1ecdcfcd6ed4582ecd12d4f688e2810f3eb69eed2e1684"), looks := true }, kinds := [], alts := [], laidByText := true, laidKinds := [.data, .data, .data], laidTests := true, laidLooks := .later }
def SpanPointsUptoCardSaid : Prop := Claim7.holds Tryd.pinned (.plain (OpenSpec.upto spanPointsSpec)) spanPointsUptoCard

/-- THE SECOND FORM's CARD OF 'sewershedlaw04.SpanLeast'. -/
def spanLeastUptoCard : Claim7 := { stood := { row := spanLeastUptoRow, standIns := [], harness := (true, "431e3b5ea91b610d8c1ecdcfcd6ed4582ecd12d4f688e2810f3eb69eed2e1684"), looks := true }, kinds := [], alts := [], laidByText := true, laidKinds := [.data, .data, .data], laidTests := true, laidLooks := .later }
def SpanLeastUptoCardSaid : Prop := Claim7.holds Tryd.pinned (.plain (OpenSpec.upto spanLeastSpec)) spanLeastUptoCard

/-- THE SECOND FORM's CARD OF 'sewershedlaw04.SpanUndo'. -/
def spanUndoUptoCard : Claim7 := { stood := { row := spanUndoUptoRow, standIns := [], harness := (true, "431e3b5ea91b610d8c1ecdcfcd6ed4582ecd12d4f688e2810f3eb69eed2e1684"), looks := true }, kinds := [], alts := [], laidByText := true, laidKinds := [.data, .data, .data], laidTests := true, laidLooks := .later }
def SpanUndoUptoCardSaid : Prop := Claim7.holds Tryd.pinned (.plain (OpenSpec.upto spanUndoSpec)) spanUndoUptoCard

/-- THE SECOND FORM's CARD OF 'sewershedlaw04.SpanSets'. -/
def spanSetsUptoCard : Claim7 := { stood := { row := spanSetsUptoRow, standIns := [], harness := (true, "431e3b5ea91b610d8c1ecdcfcd6ed4582ecd12d4f688e2810f3eb69eed2e1684"), looks := true }, kinds := [], alts := [], laidByText := true, laidKinds := [.data, .data, .data], laidTests := true, laidLooks := .later }
def SpanSetsUptoCardSaid : Prop := Claim7.holds Tryd.pinned (.plain (OpenSpec.upto spanSetsSpec)) spanSetsUptoCard

/-- THE SECOND FORM's CARD OF 'sewershedlaw04.SpanSums'. -/
def spanSumsUptoCard : Claim7 := { stood := { row := spanSumsUptoRow, standIns := [], harness := (true, "431e3b5ea91b610d8c1ecdcfcd6ed4582ecd12d4f688e2810f3eb69eed2e1684"), looks := true }, kinds := [], alts := [], laidByText := true, laidKinds := [.data, .data, .data], laidTests := true, laidLooks := .later }
def SpanSumsUptoCardSaid : Prop := Claim7.holds Tryd.pinned (.plain (OpenSpec.upto spanSumsSpec)) spanSumsUptoCard

/-- THE SECOND FORM's CARD OF 'sewershedlaw04.SpanForms'. -/
def spanFormsUptoCard : Claim7 := { stood := { row := spanFormsUptoRow, standIns := [], harness := (true, "431e3b5ea91b610d8c1ecdcfcd6ed4582ecd12d4f688e2810f3eb69eed2e1684"), looks := true }, kinds := [], alts := [], laidByText := true, laidKinds := [.data, .data, .data, .sentinel, .sentinel], laidTests := true, laidLooks := .later }
def SpanFormsUptoCardSaid : Prop := Claim7.holds Tryd.pinned (.plain (OpenSpec.upto spanFormsSpec)) spanFormsUptoCard
end Rows
end Go.Proofs.YtgflgnbbkhikcaaDoor
