/-
  No cell of these rows narrows 'for every input' (looked for: loops, veiled, ifaces, maps, wideKeys, modest, calm, conditions, laid).
  DERIVED. THE GIVEN ROWS OF THIS SEAT. 6 by the template 'for every input the law returns true; each argument reads behind the call as it read before'; 0 by the template 'total and deterministic' (their statements: YtjnifgheipmanaaTotals.lean).
  GIVEN WITH THE SEED: the statements are not yours to turn. If you find one false, say at which input.
  Laid BY PROGRAM, IN A SANDBOX (cutbox-rows.mjs): the forced cells as the released guide's own fill.sh prints them over the translation e179bdf242b43e17… (all of the seat's roots in one cut). By AI agents, Wed Nov 11 2026. No macro, syntax, notation, axiom, sorry.
-/
import Derived.Test.YtjnifgheipmanaaChecked
import GoSem.Claim
import GoSem.ClaimJoined
import GoSem.ClaimMapViews
import Derived.JoinedTies
import Derived.KernelRfl
namespace Go.Proofs.Ytjnifgheipmanaa
/- THE CELL 'sum', in the pinned program and in every row, IS THE sha256 OF THE DUMP (.gsa) THAT YtjnifgheipmanaaProg.lean LOADS. Nothing in Lean hashes anything: it is a label: what it is worth is what the hold of that sum in a sandbox is worth. -/
noncomputable def Try.pinned : Pinned := { name := "ytjnifgheipmanaa", sum := "e179bdf242b43e17415103e4ffee1b71f4d4f3321bd221a58d19190db2b9b93b", checked := Try.checked }
namespace Rows
def none {H : Type} : Left H := { results := [], args := [] }

/-- 'sewershedlaw19.IntensityDepths': WHATEVER THE INPUT: true; the input reads as it did. -/
def intensityDepthsSpec : ChangeSpec := { name := "intensityDepths", fn := fun _ => fun
  | [d1, d2, d3] => { results := [.lit (.bool true)], args := [d1, d2, d3] }
  | _ => none }
def intensityDepthsRow : OpenClaim := { program := "ytjnifgheipmanaa", sum := "e179bdf242b43e17415103e4ffee1b71f4d4f3321bd221a58d19190db2b9b93b", func := "sewershed/sewershedlaw19.IntensityDepths", spec := "intensityDepths", inPlace := ["math/bits.Sub64"], unfollowed := true, recurses := true, named := ["math/bits.divideError", "math/bits.overflowError"], apart := false }
def IntensityDepthsSaid : Prop := intensityDepthsRow.holds Try.pinned (OpenSpec.ofChange intensityDepthsSpec)

/-- ITS FALSE NEIGHBOUR: 'it returns false'. Refute it at one input. -/
def intensityDepthsWrong : ChangeSpec := { name := "intensityDepths", fn := fun _ => fun
  | [d1, d2, d3] => { results := [.lit (.bool false)], args := [d1, d2, d3] }
  | _ => none }
def IntensityDepthsWrongFalsely : Prop := intensityDepthsRow.holds Try.pinned (OpenSpec.ofChange intensityDepthsWrong)

/-- 'sewershedlaw19.IntensityAscends': WHATEVER THE INPUT: true; the input reads as it did. -/
def intensityAscendsSpec : ChangeSpec := { name := "intensityAscends", fn := fun _ => fun
  | [d1, d2, d3, d4, d5] => { results := [.lit (.bool true)], args := [d1, d2, d3, d4, d5] }
  | _ => none }
def intensityAscendsRow : OpenClaim := { program := "ytjnifgheipmanaa", sum := "e179bdf242b43e17415103e4ffee1b71f4d4f3321bd221a58d19190db2b9b93b", func := "sewershed/sewershedlaw19.IntensityAscends", spec := "intensityAscends", inPlace := ["math/bits.Sub64"], unfollowed := true, recurses := true, named := ["math/bits.divideError", "math/bits.overflowError"], apart := false }
def IntensityAscendsSaid : Prop := intensityAscendsRow.holds Try.pinned (OpenSpec.ofChange intensityAscendsSpec)

/-- ITS FALSE NEIGHBOUR: 'it returns false'. Refute it at one input. -/
def intensityAscendsWrong : ChangeSpec := { name := "intensityAscends", fn := fun _ => fun
  | [d1, d2, d3, d4, d5] => { results := [.lit (.bool false)], args := [d1, d2, d3, d4, d5] }
  | _ => none }
def IntensityAscendsWrongFalsely : Prop := intensityAscendsRow.holds Try.pinned (OpenSpec.ofChange intensityAscendsWrong)

/-- 'sewershedlaw19.IntensityFinds': WHATEVER THE INPUT: true; the input reads as it did. -/
def intensityFindsSpec : ChangeSpec := { name := "intensityFinds", fn := fun _ => fun
  | [d1, d2, d3, d4] => { results := [.lit (.bool true)], args := [d1, d2, d3, d4] }
  | _ => none }
def intensityFindsRow : OpenClaim := { program := "ytjnifgheipmanaa", sum := "e179bdf242b43e17415103e4ffee1b71f4d4f3321bd221a58d19190db2b9b93b", func := "sewershed/sewershedlaw19.IntensityFinds", spec := "intensityFinds", inPlace := ["math/bits.Sub64"], unfollowed := true, recurses := true, named := ["math/bits.divideError", "math/bits.overflowError"], apart := false }
def IntensityFindsSaid : Prop := intensityFindsRow.holds Try.pinned (OpenSpec.ofChange intensityFindsSpec)

/-- ITS FALSE NEIGHBOUR: 'it returns false'. Refute it at one input. -/
def intensityFindsWrong : ChangeSpec := { name := "intensityFinds", fn := fun _ => fun
  | [d1, d2, d3, d4] => { results := [.lit (.bool false)], args := [d1, d2, d3, d4] }
  | _ => none }
def IntensityFindsWrongFalsely : Prop := intensityFindsRow.holds Try.pinned (OpenSpec.ofChange intensityFindsWrong)

/-- 'sewershedlaw19.IntensityBack': WHATEVER THE INPUT: true; the input reads as it did. -/
def intensityBackSpec : ChangeSpec := { name := "intensityBack", fn := fun _ => fun
  | [d1, d2, d3, d4] => { results := [.lit (.bool true)], args := [d1, d2, d3, d4] }
  | _ => none }
def intensityBackRow : OpenClaim := { program := "ytjnifgheipmanaa", sum := "e179bdf242b43e17415103e4ffee1b71f4d4f3321bd221a58d19190db2b9b93b", func := "sewershed/sewershedlaw19.IntensityBack", spec := "intensityBack", inPlace := ["math/bits.Sub64"], unfollowed := true, recurses := true, named := ["math/bits.divideError", "math/bits.overflowError"], apart := false }
def IntensityBackSaid : Prop := intensityBackRow.holds Try.pinned (OpenSpec.ofChange intensityBackSpec)

/-- ITS FALSE NEIGHBOUR: 'it returns false'. Refute it at one input. -/
def intensityBackWrong : ChangeSpec := { name := "intensityBack", fn := fun _ => fun
  | [d1, d2, d3, d4] => { results := [.lit (.bool false)], args := [d1, d2, d3, d4] }
  | _ => none }
def IntensityBackWrongFalsely : Prop := intensityBackRow.holds Try.pinned (OpenSpec.ofChange intensityBackWrong)

/-- 'sewershedlaw19.IntensityRecords': WHATEVER THE INPUT: true; the input reads as it did. -/
def intensityRecordsSpec : ChangeSpec := { name := "intensityRecords", fn := fun _ => fun
  | [d1, d2, d3, d4] => { results := [.lit (.bool true)], args := [d1, d2, d3, d4] }
  | _ => none }
def intensityRecordsRow : OpenClaim := { program := "ytjnifgheipmanaa", sum := "e179bdf242b43e17415103e4ffee1b71f4d4f3321bd221a58d19190db2b9b93b", func := "sewershed/sewershedlaw19.IntensityRecords", spec := "intensityRecords", inPlace := ["math/bits.Sub64"], unfollowed := true, recurses := true, named := ["math/bits.divideError", "math/bits.overflowError"], apart := false }
def IntensityRecordsSaid : Prop := intensityRecordsRow.holds Try.pinned (OpenSpec.ofChange intensityRecordsSpec)

/-- ITS FALSE NEIGHBOUR: 'it returns false'. Refute it at one input. -/
def intensityRecordsWrong : ChangeSpec := { name := "intensityRecords", fn := fun _ => fun
  | [d1, d2, d3, d4] => { results := [.lit (.bool false)], args := [d1, d2, d3, d4] }
  | _ => none }
def IntensityRecordsWrongFalsely : Prop := intensityRecordsRow.holds Try.pinned (OpenSpec.ofChange intensityRecordsWrong)

/-- 'sewershedlaw19.IntensityCovered': WHATEVER THE INPUT: true; the input reads as it did. -/
def intensityCoveredSpec : ChangeSpec := { name := "intensityCovered", fn := fun _ => fun
  | [d1, d2, d3] => { results := [.lit (.bool true)], args := [d1, d2, d3] }
  | _ => none }
def intensityCoveredRow : OpenClaim := { program := "ytjnifgheipmanaa", sum := "e179bdf242b43e17415103e4ffee1b71f4d4f3321bd221a58d19190db2b9b93b", func := "sewershed/sewershedlaw19.IntensityCovered", spec := "intensityCovered", inPlace := ["math/bits.Sub64"], unfollowed := true, recurses := true, named := ["math/bits.divideError", "math/bits.overflowError"], apart := false }
def IntensityCoveredSaid : Prop := intensityCoveredRow.holds Try.pinned (OpenSpec.ofChange intensityCoveredSpec)

/-- ITS FALSE NEIGHBOUR: 'it returns false'. Refute it at one input. -/
def intensityCoveredWrong : ChangeSpec := { name := "intensityCovered", fn := fun _ => fun
  | [d1, d2, d3] => { results := [.lit (.bool false)], args := [d1, d2, d3] }
  | _ => none }
def IntensityCoveredWrongFalsely : Prop := intensityCoveredRow.holds Try.pinned (OpenSpec.ofChange intensityCoveredWrong)

/- THE SECOND FORM. 'bulk': how many values and letters a reading holds, each counted each time it is reached (what is shared counts as often as it is met; a slice's spare places count too). A statement '..UptoSaid' is the law's where the arguments, and the package variables that the reading takes, are together of bulk at most 1048576: NARROWER than '..Said'. Prove '..Said' where nothing that the law and all that it calls make is longer than what came in: it says more and counts as full. Else prove '..UptoSaid'. A law counts once. -/
mutual
def uptoBulk {H : Type} : DataW H → Nat
  | .lit (.string bytes) => bytes.length + 1
  | .lit _ => 1
  | .nil => 1
  | .ptr d => uptoBulk d + 1
  | .slice elems spare => uptoBulkAll elems + uptoBulkAll spare + 1
  | .agg parts => uptoBulkAll parts + 1
  | .iface _ d => uptoBulk d + 1
  | .map entries => uptoBulkEntries entries + 1
  | .held _ => 1
def uptoBulkAll {H : Type} : List (DataW H) → Nat
  | [] => 0
  | d :: r => uptoBulk d + uptoBulkAll r
def uptoBulkEntries {H : Type} : List (Lit × DataW H) → Nat
  | [] => 0
  | x :: r => uptoBulkEntry x + uptoBulkEntries r
def uptoBulkEntry {H : Type} : Lit × DataW H → Nat
  | (.string bytes, d) => bytes.length + uptoBulk d + 1
  | (_, d) => uptoBulk d + 1
 end
def uptoSmall : (H : Type) → List (DataW H) → Bool := fun _ ds => decide (uptoBulkAll ds ≤ 1048576)
def OpenSpec.upto (s : _root_.Go.ChangeSpec) : _root_.Go.OpenSpec := { _root_.Go.OpenSpec.ofChange s with cond := some uptoSmall }

/-- 'sewershedlaw19.IntensityDepths', WHERE WHAT IT READS IS OF BULK AT MOST 1048576: true; the input reads as it did. -/
def intensityDepthsUptoRow : OpenClaim := { program := "ytjnifgheipmanaa", sum := "e179bdf242b43e17415103e4ffee1b71f4d4f3321bd221a58d19190db2b9b93b", func := "sewershed/sewershedlaw19.IntensityDepths", spec := "intensityDepths", inPlace := ["math/bits.Sub64"], unfollowed := true, recurses := true, named := ["math/bits.divideError", "math/bits.overflowError"], apart := false, narrowed := true }
def IntensityDepthsUptoSaid : Prop := intensityDepthsUptoRow.holds Try.pinned (OpenSpec.upto intensityDepthsSpec)

/-- 'sewershedlaw19.IntensityAscends', WHERE WHAT IT READS IS OF BULK AT MOST 1048576: true; the input reads as it did. -/
def intensityAscendsUptoRow : OpenClaim := { program := "ytjnifgheipmanaa", sum := "e179bdf242b43e17415103e4ffee1b71f4d4f3321bd221a58d19190db2b9b93b", func := "sewershed/sewershedlaw19.IntensityAscends", spec := "intensityAscends", inPlace := ["math/bits.Sub64"], unfollowed := true, recurses := true, named := ["math/bits.divideError", "math/bits.overflowError"], apart := false, narrowed := true }
def IntensityAscendsUptoSaid : Prop := intensityAscendsUptoRow.holds Try.pinned (OpenSpec.upto intensityAscendsSpec)

/-- 'sewershedlaw19.IntensityFinds', WHERE WHAT IT READS IS OF BULK AT MOST 1048576: true; the input reads as it did. -/
def intensityFindsUptoRow : OpenClaim := { program := "ytjnifgheipmanaa", sum := "e179bdf242b43e17415103e4ffee1b71f4d4f3321bd221a58d19190db2b9b93b", func := "sewershed/sewershedlaw19.IntensityFinds", spec := "intensityFinds", inPlace := ["math/bits.Sub64"], unfollowed := true, recurses := true, named := ["math/bits.divideError", "math/bits.overflowError"], apart := false, narrowed := true }
def IntensityFindsUptoSaid : Prop := intensityFindsUptoRow.holds Try.pinned (OpenSpec.upto intensityFindsSpec)

/-- 'sewershedlaw19.IntensityBack', WHERE WHAT IT READS IS OF BULK AT MOST 1048576: true; the input reads as it did. -/
def intensityBackUptoRow : OpenClaim := { program := "ytjnifgheipmanaa", sum := "e179bdf242b43e17415103e4ffee1b71f4d4f3321bd221a58d19190db2b9b93b", func := "sewershed/sewershedlaw19.IntensityBack", spec := "intensityBack", inPlace := ["math/bits.Sub64"], unfollowed := true, recurses := true, named := ["math/bits.divideError", "math/bits.overflowError"], apart := false, narrowed := true }
def IntensityBackUptoSaid : Prop := intensityBackUptoRow.holds Try.pinned (OpenSpec.upto intensityBackSpec)

/-- 'sewershedlaw19.IntensityRecords', WHERE WHAT IT READS IS OF BULK AT MOST 1048576: true; the input reads as it did. -/
def intensityRecordsUptoRow : OpenClaim := { program := "ytjnifgheipmanaa", sum := "e179bdf242b43e17415103e4ffee1b71f4d4f3321bd221a58d19190db2b9b93b", func := "sewershed/sewershedlaw19.IntensityRecords", spec := "intensityRecords", inPlace := ["math/bits.Sub64"], unfollowed := true, recurses := true, named := ["math/bits.divideError", "math/bits.overflowError"], apart := false, narrowed := true }
def IntensityRecordsUptoSaid : Prop := intensityRecordsUptoRow.holds Try.pinned (OpenSpec.upto intensityRecordsSpec)

/-- 'sewershedlaw19.IntensityCovered', WHERE WHAT IT READS IS OF BULK AT MOST 1048576: true; the input reads as it did. -/
def intensityCoveredUptoRow : OpenClaim := { program := "ytjnifgheipmanaa", sum := "e179bdf242b43e17415103e4ffee1b71f4d4f3321bd221a58d19190db2b9b93b", func := "sewershed/sewershedlaw19.IntensityCovered", spec := "intensityCovered", inPlace := ["math/bits.Sub64"], unfollowed := true, recurses := true, named := ["math/bits.divideError", "math/bits.overflowError"], apart := false, narrowed := true }
def IntensityCoveredUptoSaid : Prop := intensityCoveredUptoRow.holds Try.pinned (OpenSpec.upto intensityCoveredSpec)

end Rows
end Go.Proofs.Ytjnifgheipmanaa
