/-
  No cell of these rows narrows 'for every input' (looked for: loops, veiled, ifaces, maps, wideKeys, modest, calm, conditions, laid).
  DERIVED. THE GIVEN ROWS OF THIS SEAT. 5 by the template 'for every input the law returns true; each argument reads behind the call as it read before'; 0 by the template 'total and deterministic' (their statements: YtkbocphpnmpaeaaTotals.lean).
  GIVEN WITH THE SEED: the statements are not yours to turn. If you find one false, say at which input.
  Laid BY PROGRAM, IN A SANDBOX (cutbox-rows.mjs): the forced cells as the released guide's own fill.sh prints them over the translation e22429346f08bf75… (all of the seat's roots in one cut). By AI agents, Wed Nov 11 2026. No macro, syntax, notation, axiom, sorry.
-/
import Derived.Test.YtkbocphpnmpaeaaChecked
import GoSem.Claim
import GoSem.ClaimJoined
import GoSem.ClaimMapViews
import Derived.JoinedTies
import Derived.KernelRfl
namespace Go.Proofs.Ytkbocphpnmpaeaa
/- THE CELL 'sum', in the pinned program and in every row, IS THE sha256 OF THE DUMP (.gsa) THAT YtkbocphpnmpaeaaProg.lean LOADS. Nothing in Lean hashes anything: it is a label: what it is worth is what the hold of that sum in a sandbox is worth. -/
noncomputable def Try.pinned : Pinned := { name := "ytkbocphpnmpaeaa", sum := "e22429346f08bf757379ad199e7d0852c5052b082dc8042dd9323bcb14528961", checked := Try.checked }
namespace Rows
def none {H : Type} : Left H := { results := [], args := [] }

/-- 'sewershedlaw17.GaugeFine': WHATEVER THE INPUT: true; the input reads as it did. -/
def gaugeFineSpec : ChangeSpec := { name := "gaugeFine", fn := fun _ => fun
  | [d1, d2] => { results := [.lit (.bool true)], args := [d1, d2] }
  | _ => none }
def gaugeFineRow : OpenClaim := { program := "ytkbocphpnmpaeaa", sum := "e22429346f08bf757379ad199e7d0852c5052b082dc8042dd9323bcb14528961", func := "sewershed/sewershedlaw17.GaugeFine", spec := "gaugeFine", unfollowed := true, recurses := true, named := ["math/bits.divideError", "math/bits.overflowError"], apart := false }
def GaugeFineSaid : Prop := gaugeFineRow.holds Try.pinned (OpenSpec.ofChange gaugeFineSpec)

/-- ITS FALSE NEIGHBOUR: 'it returns false'. Refute it at one input. -/
def gaugeFineWrong : ChangeSpec := { name := "gaugeFine", fn := fun _ => fun
  | [d1, d2] => { results := [.lit (.bool false)], args := [d1, d2] }
  | _ => none }
def GaugeFineWrongFalsely : Prop := gaugeFineRow.holds Try.pinned (OpenSpec.ofChange gaugeFineWrong)

/-- 'sewershedlaw17.GaugeSums': WHATEVER THE INPUT: true; the input reads as it did. -/
def gaugeSumsSpec : ChangeSpec := { name := "gaugeSums", fn := fun _ => fun
  | [d1, d2] => { results := [.lit (.bool true)], args := [d1, d2] }
  | _ => none }
def gaugeSumsRow : OpenClaim := { program := "ytkbocphpnmpaeaa", sum := "e22429346f08bf757379ad199e7d0852c5052b082dc8042dd9323bcb14528961", func := "sewershed/sewershedlaw17.GaugeSums", spec := "gaugeSums", unfollowed := true, recurses := true, named := ["math/bits.divideError", "math/bits.overflowError"], apart := false }
def GaugeSumsSaid : Prop := gaugeSumsRow.holds Try.pinned (OpenSpec.ofChange gaugeSumsSpec)

/-- ITS FALSE NEIGHBOUR: 'it returns false'. Refute it at one input. -/
def gaugeSumsWrong : ChangeSpec := { name := "gaugeSums", fn := fun _ => fun
  | [d1, d2] => { results := [.lit (.bool false)], args := [d1, d2] }
  | _ => none }
def GaugeSumsWrongFalsely : Prop := gaugeSumsRow.holds Try.pinned (OpenSpec.ofChange gaugeSumsWrong)

/-- 'sewershedlaw17.GaugeGreater': WHATEVER THE INPUT: true; the input reads as it did. -/
def gaugeGreaterSpec : ChangeSpec := { name := "gaugeGreater", fn := fun _ => fun
  | [d1, d2, d3] => { results := [.lit (.bool true)], args := [d1, d2, d3] }
  | _ => none }
def gaugeGreaterRow : OpenClaim := { program := "ytkbocphpnmpaeaa", sum := "e22429346f08bf757379ad199e7d0852c5052b082dc8042dd9323bcb14528961", func := "sewershed/sewershedlaw17.GaugeGreater", spec := "gaugeGreater", unfollowed := true, recurses := true, named := ["math/bits.divideError", "math/bits.overflowError"], apart := false }
def GaugeGreaterSaid : Prop := gaugeGreaterRow.holds Try.pinned (OpenSpec.ofChange gaugeGreaterSpec)

/-- ITS FALSE NEIGHBOUR: 'it returns false'. Refute it at one input. -/
def gaugeGreaterWrong : ChangeSpec := { name := "gaugeGreater", fn := fun _ => fun
  | [d1, d2, d3] => { results := [.lit (.bool false)], args := [d1, d2, d3] }
  | _ => none }
def GaugeGreaterWrongFalsely : Prop := gaugeGreaterRow.holds Try.pinned (OpenSpec.ofChange gaugeGreaterWrong)

/-- 'sewershedlaw17.GaugeWindows': WHATEVER THE INPUT: true; the input reads as it did. -/
def gaugeWindowsSpec : ChangeSpec := { name := "gaugeWindows", fn := fun _ => fun
  | [d1, d2, d3, d4] => { results := [.lit (.bool true)], args := [d1, d2, d3, d4] }
  | _ => none }
def gaugeWindowsRow : OpenClaim := { program := "ytkbocphpnmpaeaa", sum := "e22429346f08bf757379ad199e7d0852c5052b082dc8042dd9323bcb14528961", func := "sewershed/sewershedlaw17.GaugeWindows", spec := "gaugeWindows", unfollowed := true, recurses := true, named := ["math/bits.divideError", "math/bits.overflowError"], apart := false }
def GaugeWindowsSaid : Prop := gaugeWindowsRow.holds Try.pinned (OpenSpec.ofChange gaugeWindowsSpec)

/-- ITS FALSE NEIGHBOUR: 'it returns false'. Refute it at one input. -/
def gaugeWindowsWrong : ChangeSpec := { name := "gaugeWindows", fn := fun _ => fun
  | [d1, d2, d3, d4] => { results := [.lit (.bool false)], args := [d1, d2, d3, d4] }
  | _ => none }
def GaugeWindowsWrongFalsely : Prop := gaugeWindowsRow.holds Try.pinned (OpenSpec.ofChange gaugeWindowsWrong)

/-- 'sewershedlaw17.GaugeParts': WHATEVER THE INPUT: true; the input reads as it did. -/
def gaugePartsSpec : ChangeSpec := { name := "gaugeParts", fn := fun _ => fun
  | [d1, d2, d3] => { results := [.lit (.bool true)], args := [d1, d2, d3] }
  | _ => none }
def gaugePartsRow : OpenClaim := { program := "ytkbocphpnmpaeaa", sum := "e22429346f08bf757379ad199e7d0852c5052b082dc8042dd9323bcb14528961", func := "sewershed/sewershedlaw17.GaugeParts", spec := "gaugeParts", unfollowed := true, recurses := true, named := ["math/bits.divideError", "math/bits.overflowError"], apart := false }
def GaugePartsSaid : Prop := gaugePartsRow.holds Try.pinned (OpenSpec.ofChange gaugePartsSpec)

/-- ITS FALSE NEIGHBOUR: 'it returns false'. Refute it at one input. -/
def gaugePartsWrong : ChangeSpec := { name := "gaugeParts", fn := fun _ => fun
  | [d1, d2, d3] => { results := [.lit (.bool false)], args := [d1, d2, d3] }
  | _ => none }
def GaugePartsWrongFalsely : Prop := gaugePartsRow.holds Try.pinned (OpenSpec.ofChange gaugePartsWrong)

/- THE SECOND FORM. 'bulk': how many values and letters a reading holds, each counted each time it is reached (what is shared counts as often as it is met; a slice's spare places count too). A statement '..UptoSaid' is the law's where the arguments, and the package variables that the reading takes, are together of bulk at most 1048576: NARROWER than '..Said'. Prove '..Said' where nothing that the law and all that it calls make is longer than what came in: it says more and counts as full. Else prove '..UptoSaid'. A law counts once. -/
mutual
def uptoBulk {H : Type} : DataW H → Nat
  | .lit (.string bytes) => bytes.length + 1
  | .lit _ => 1
  | .nil => 1
  | .ptr d => uptoBulk d + 1
  | .slice elems spare => uptoBulkAll elems + uptoBulkAll spare + 1
  | .agg parts => uptoBulkAll parts + 1
  | .iface _ d => uptoBulk d + 1
  | .map entries => uptoBulkEntries entries + 1
  | .held _ => 1
def uptoBulkAll {H : Type} : List (DataW H) → Nat
  | [] => 0
  | d :: r => uptoBulk d + uptoBulkAll r
def uptoBulkEntries {H : Type} : List (Lit × DataW H) → Nat
  | [] => 0
  | x :: r => uptoBulkEntry x + uptoBulkEntries r
def uptoBulkEntry {H : Type} : Lit × DataW H → Nat
  | (.string bytes, d) => bytes.length + uptoBulk d + 1
  | (_, d) => uptoBulk d + 1
 end
def uptoSmall : (H : Type) → List (DataW H) → Bool := fun _ ds => decide (uptoBulkAll ds ≤ 1048576)
def OpenSpec.upto (s : _root_.Go.ChangeSpec) : _root_.Go.OpenSpec := { _root_.Go.OpenSpec.ofChange s with cond := some uptoSmall }

/-- 'sewershedlaw17.GaugeFine', WHERE WHAT IT READS IS OF BULK AT MOST 1048576: true; the input reads as it did. -/
def gaugeFineUptoRow : OpenClaim := { program := "ytkbocphpnmpaeaa", sum := "e22429346f08bf757379ad199e7d0852c5052b082dc8042dd9323bcb14528961", func := "sewershed/sewershedlaw17.GaugeFine", spec := "gaugeFine", unfollowed := true, recurses := true, named := ["math/bits.divideError", "math/bits.overflowError"], apart := false, narrowed := true }
def GaugeFineUptoSaid : Prop := gaugeFineUptoRow.holds Try.pinned (OpenSpec.upto gaugeFineSpec)

/-- 'sewershedlaw17.GaugeSums', WHERE WHAT IT READS IS OF BULK AT MOST 1048576: true; the input reads as it did. -/
def gaugeSumsUptoRow : OpenClaim := { program := "ytkbocphpnmpaeaa", sum := "e22429346f08bf757379ad199e7d0852c5052b082dc8042dd9323bcb14528961", func := "sewershed/sewershedlaw17.GaugeSums", spec := "gaugeSums", unfollowed := true, recurses := true, named := ["math/bits.divideError", "math/bits.overflowError"], apart := false, narrowed := true }
def GaugeSumsUptoSaid : Prop := gaugeSumsUptoRow.holds Try.pinned (OpenSpec.upto gaugeSumsSpec)

/-- 'sewershedlaw17.GaugeGreater', WHERE WHAT IT READS IS OF BULK AT MOST 1048576: true; the input reads as it did. -/
def gaugeGreaterUptoRow : OpenClaim := { program := "ytkbocphpnmpaeaa", sum := "e22429346f08bf757379ad199e7d0852c5052b082dc8042dd9323bcb14528961", func := "sewershed/sewershedlaw17.GaugeGreater", spec := "gaugeGreater", unfollowed := true, recurses := true, named := ["math/bits.divideError", "math/bits.overflowError"], apart := false, narrowed := true }
def GaugeGreaterUptoSaid : Prop := gaugeGreaterUptoRow.holds Try.pinned (OpenSpec.upto gaugeGreaterSpec)

/-- 'sewershedlaw17.GaugeWindows', WHERE WHAT IT READS IS OF BULK AT MOST 1048576: true; the input reads as it did. -/
def gaugeWindowsUptoRow : OpenClaim := { program := "ytkbocphpnmpaeaa", sum := "e22429346f08bf757379ad199e7d0852c5052b082dc8042dd9323bcb14528961", func := "sewershed/sewershedlaw17.GaugeWindows", spec := "gaugeWindows", unfollowed := true, recurses := true, named := ["math/bits.divideError", "math/bits.overflowError"], apart := false, narrowed := true }
def GaugeWindowsUptoSaid : Prop := gaugeWindowsUptoRow.holds Try.pinned (OpenSpec.upto gaugeWindowsSpec)

/-- 'sewershedlaw17.GaugeParts', WHERE WHAT IT READS IS OF BULK AT MOST 1048576: true; the input reads as it did. -/
def gaugePartsUptoRow : OpenClaim := { program := "ytkbocphpnmpaeaa", sum := "e22429346f08bf757379ad199e7d0852c5052b082dc8042dd9323bcb14528961", func := "sewershed/sewershedlaw17.GaugeParts", spec := "gaugeParts", unfollowed := true, recurses := true, named := ["math/bits.divideError", "math/bits.overflowError"], apart := false, narrowed := true }
def GaugePartsUptoSaid : Prop := gaugePartsUptoRow.holds Try.pinned (OpenSpec.upto gaugePartsSpec)

end Rows
end Go.Proofs.Ytkbocphpnmpaeaa
