/-
  No cell of these rows narrows 'for every input' (looked for: loops, veiled, ifaces, maps, wideKeys, modest, calm, conditions, laid).
  DERIVED. THE GIVEN ROWS OF THIS SEAT. 7 by the template 'for every input the law returns true; each argument reads behind the call as it read before'; 0 by the template 'total and deterministic' (their statements: YtljaibbmceknfaaTotals.lean).
  GIVEN WITH THE SEED: the statements are not yours to turn. If you find one false, say at which input.
  Laid BY PROGRAM, IN A SANDBOX (cutbox-rows.mjs): the forced cells as the released guide's own fill.sh prints them over the translation b3da29dc6a9c9019… (all of the seat's roots in one cut). By AI agents, Wed Nov 11 2026. No macro, syntax, notation, axiom, sorry.
-/
import Derived.Test.YtljaibbmceknfaaChecked
import GoSem.Claim
import GoSem.ClaimJoined
import GoSem.ClaimMapViews
import Derived.JoinedTies
import Derived.KernelRfl
namespace Go.Proofs.Ytljaibbmceknfaa
/- THE CELL 'sum', in the pinned program and in every row, IS THE sha256 OF THE DUMP (.gsa) THAT YtljaibbmceknfaaProg.lean LOADS. Nothing in Lean hashes anything: it is a label: what it is worth is what the hold of that sum in a sandbox is worth. -/
noncomputable def Try.pinned : Pinned := { name := "ytljaibbmceknfaa", sum := "b3da29dc6a9c9019233c930aa921a9b3a0754c6c53d47cb8b2b8f82b2b79c702", checked := Try.checked }
namespace Rows
def none {H : Type} : Left H := { results := [], args := [] }

/-- 'sewershedlaw23.LossesOrder': WHATEVER THE INPUT: true; the input reads as it did. -/
def lossesOrderSpec : ChangeSpec := { name := "lossesOrder", fn := fun _ => fun
  | [d1, d2, d3, d4, d5, d6, d7] => { results := [.lit (.bool true)], args := [d1, d2, d3, d4, d5, d6, d7] }
  | _ => none }
def lossesOrderRow : OpenClaim := { program := "ytljaibbmceknfaa", sum := "b3da29dc6a9c9019233c930aa921a9b3a0754c6c53d47cb8b2b8f82b2b79c702", func := "sewershed/sewershedlaw23.LossesOrder", spec := "lossesOrder", unfollowed := true, recurses := true, apart := false }
def LossesOrderSaid : Prop := lossesOrderRow.holds Try.pinned (OpenSpec.ofChange lossesOrderSpec)

/-- ITS FALSE NEIGHBOUR: 'it returns false'. Refute it at one input. -/
def lossesOrderWrong : ChangeSpec := { name := "lossesOrder", fn := fun _ => fun
  | [d1, d2, d3, d4, d5, d6, d7] => { results := [.lit (.bool false)], args := [d1, d2, d3, d4, d5, d6, d7] }
  | _ => none }
def LossesOrderWrongFalsely : Prop := lossesOrderRow.holds Try.pinned (OpenSpec.ofChange lossesOrderWrong)

/-- 'sewershedlaw23.LossesSteps': WHATEVER THE INPUT: true; the input reads as it did. -/
def lossesStepsSpec : ChangeSpec := { name := "lossesSteps", fn := fun _ => fun
  | [d1, d2, d3, d4] => { results := [.lit (.bool true)], args := [d1, d2, d3, d4] }
  | _ => none }
def lossesStepsRow : OpenClaim := { program := "ytljaibbmceknfaa", sum := "b3da29dc6a9c9019233c930aa921a9b3a0754c6c53d47cb8b2b8f82b2b79c702", func := "sewershed/sewershedlaw23.LossesSteps", spec := "lossesSteps", unfollowed := true, recurses := true, apart := false }
def LossesStepsSaid : Prop := lossesStepsRow.holds Try.pinned (OpenSpec.ofChange lossesStepsSpec)

/-- ITS FALSE NEIGHBOUR: 'it returns false'. Refute it at one input. -/
def lossesStepsWrong : ChangeSpec := { name := "lossesSteps", fn := fun _ => fun
  | [d1, d2, d3, d4] => { results := [.lit (.bool false)], args := [d1, d2, d3, d4] }
  | _ => none }
def LossesStepsWrongFalsely : Prop := lossesStepsRow.holds Try.pinned (OpenSpec.ofChange lossesStepsWrong)

/-- 'sewershedlaw23.LossesDries': WHATEVER THE INPUT: true; the input reads as it did. -/
def lossesDriesSpec : ChangeSpec := { name := "lossesDries", fn := fun _ => fun
  | [d1, d2, d3] => { results := [.lit (.bool true)], args := [d1, d2, d3] }
  | _ => none }
def lossesDriesRow : OpenClaim := { program := "ytljaibbmceknfaa", sum := "b3da29dc6a9c9019233c930aa921a9b3a0754c6c53d47cb8b2b8f82b2b79c702", func := "sewershed/sewershedlaw23.LossesDries", spec := "lossesDries", unfollowed := true, recurses := true, apart := false }
def LossesDriesSaid : Prop := lossesDriesRow.holds Try.pinned (OpenSpec.ofChange lossesDriesSpec)

/-- ITS FALSE NEIGHBOUR: 'it returns false'. Refute it at one input. -/
def lossesDriesWrong : ChangeSpec := { name := "lossesDries", fn := fun _ => fun
  | [d1, d2, d3] => { results := [.lit (.bool false)], args := [d1, d2, d3] }
  | _ => none }
def LossesDriesWrongFalsely : Prop := lossesDriesRow.holds Try.pinned (OpenSpec.ofChange lossesDriesWrong)

/-- 'sewershedlaw23.LossesBalance': WHATEVER THE INPUT: true; the input reads as it did. -/
def lossesBalanceSpec : ChangeSpec := { name := "lossesBalance", fn := fun _ => fun
  | [d1, d2, d3, d4] => { results := [.lit (.bool true)], args := [d1, d2, d3, d4] }
  | _ => none }
def lossesBalanceRow : OpenClaim := { program := "ytljaibbmceknfaa", sum := "b3da29dc6a9c9019233c930aa921a9b3a0754c6c53d47cb8b2b8f82b2b79c702", func := "sewershed/sewershedlaw23.LossesBalance", spec := "lossesBalance", unfollowed := true, recurses := true, apart := false }
def LossesBalanceSaid : Prop := lossesBalanceRow.holds Try.pinned (OpenSpec.ofChange lossesBalanceSpec)

/-- ITS FALSE NEIGHBOUR: 'it returns false'. Refute it at one input. -/
def lossesBalanceWrong : ChangeSpec := { name := "lossesBalance", fn := fun _ => fun
  | [d1, d2, d3, d4] => { results := [.lit (.bool false)], args := [d1, d2, d3, d4] }
  | _ => none }
def LossesBalanceWrongFalsely : Prop := lossesBalanceRow.holds Try.pinned (OpenSpec.ofChange lossesBalanceWrong)

/-- 'sewershedlaw23.LossesMixed': WHATEVER THE INPUT: true; the input reads as it did. -/
def lossesMixedSpec : ChangeSpec := { name := "lossesMixed", fn := fun _ => fun
  | [d1, d2, d3, d4, d5] => { results := [.lit (.bool true)], args := [d1, d2, d3, d4, d5] }
  | _ => none }
def lossesMixedRow : OpenClaim := { program := "ytljaibbmceknfaa", sum := "b3da29dc6a9c9019233c930aa921a9b3a0754c6c53d47cb8b2b8f82b2b79c702", func := "sewershed/sewershedlaw23.LossesMixed", spec := "lossesMixed", unfollowed := true, recurses := true, apart := false }
def LossesMixedSaid : Prop := lossesMixedRow.holds Try.pinned (OpenSpec.ofChange lossesMixedSpec)

/-- ITS FALSE NEIGHBOUR: 'it returns false'. Refute it at one input. -/
def lossesMixedWrong : ChangeSpec := { name := "lossesMixed", fn := fun _ => fun
  | [d1, d2, d3, d4, d5] => { results := [.lit (.bool false)], args := [d1, d2, d3, d4, d5] }
  | _ => none }
def LossesMixedWrongFalsely : Prop := lossesMixedRow.holds Try.pinned (OpenSpec.ofChange lossesMixedWrong)

/-- 'sewershedlaw23.LossesRuns': WHATEVER THE INPUT: true; the input reads as it did. -/
def lossesRunsSpec : ChangeSpec := { name := "lossesRuns", fn := fun _ => fun
  | [d1, d2, d3, d4] => { results := [.lit (.bool true)], args := [d1, d2, d3, d4] }
  | _ => none }
def lossesRunsRow : OpenClaim := { program := "ytljaibbmceknfaa", sum := "b3da29dc6a9c9019233c930aa921a9b3a0754c6c53d47cb8b2b8f82b2b79c702", func := "sewershed/sewershedlaw23.LossesRuns", spec := "lossesRuns", unfollowed := true, recurses := true, apart := false }
def LossesRunsSaid : Prop := lossesRunsRow.holds Try.pinned (OpenSpec.ofChange lossesRunsSpec)

/-- ITS FALSE NEIGHBOUR: 'it returns false'. Refute it at one input. -/
def lossesRunsWrong : ChangeSpec := { name := "lossesRuns", fn := fun _ => fun
  | [d1, d2, d3, d4] => { results := [.lit (.bool false)], args := [d1, d2, d3, d4] }
  | _ => none }
def LossesRunsWrongFalsely : Prop := lossesRunsRow.holds Try.pinned (OpenSpec.ofChange lossesRunsWrong)

/-- 'sewershedlaw23.LossesMixtures': WHATEVER THE INPUT: true; the input reads as it did. -/
def lossesMixturesSpec : ChangeSpec := { name := "lossesMixtures", fn := fun _ => fun
  | [d1, d2, d3, d4, d5] => { results := [.lit (.bool true)], args := [d1, d2, d3, d4, d5] }
  | _ => none }
def lossesMixturesRow : OpenClaim := { program := "ytljaibbmceknfaa", sum := "b3da29dc6a9c9019233c930aa921a9b3a0754c6c53d47cb8b2b8f82b2b79c702", func := "sewershed/sewershedlaw23.LossesMixtures", spec := "lossesMixtures", unfollowed := true, recurses := true, apart := false }
def LossesMixturesSaid : Prop := lossesMixturesRow.holds Try.pinned (OpenSpec.ofChange lossesMixturesSpec)

/-- ITS FALSE NEIGHBOUR: 'it returns false'. Refute it at one input. -/
def lossesMixturesWrong : ChangeSpec := { name := "lossesMixtures", fn := fun _ => fun
  | [d1, d2, d3, d4, d5] => { results := [.lit (.bool false)], args := [d1, d2, d3, d4, d5] }
  | _ => none }
def LossesMixturesWrongFalsely : Prop := lossesMixturesRow.holds Try.pinned (OpenSpec.ofChange lossesMixturesWrong)

/- THE SECOND FORM. 'bulk': how many values and letters a reading holds, each counted each time it is reached (what is shared counts as often as it is met; a slice's spare places count too). A statement '..UptoSaid' is the law's where the arguments, and the package variables that the reading takes, are together of bulk at most 1048576: NARROWER than '..Said'. Prove '..Said' where nothing that the law and all that it calls make is longer than what came in: it says more and counts as full. Else prove '..UptoSaid'. A law counts once. -/
mutual
def uptoBulk {H : Type} : DataW H → Nat
  | .lit (.string bytes) => bytes.length + 1
  | .lit _ => 1
  | .nil => 1
  | .ptr d => uptoBulk d + 1
  | .slice elems spare => uptoBulkAll elems + uptoBulkAll spare + 1
  | .agg parts => uptoBulkAll parts + 1
  | .iface _ d => uptoBulk d + 1
  | .map entries => uptoBulkEntries entries + 1
  | .held _ => 1
def uptoBulkAll {H : Type} : List (DataW H) → Nat
  | [] => 0
  | d :: r => uptoBulk d + uptoBulkAll r
def uptoBulkEntries {H : Type} : List (Lit × DataW H) → Nat
  | [] => 0
  | x :: r => uptoBulkEntry x + uptoBulkEntries r
def uptoBulkEntry {H : Type} : Lit × DataW H → Nat
  | (.string bytes, d) => bytes.length + uptoBulk d + 1
  | (_, d) => uptoBulk d + 1
 end
def uptoSmall : (H : Type) → List (DataW H) → Bool := fun _ ds => decide (uptoBulkAll ds ≤ 1048576)
def OpenSpec.upto (s : _root_.Go.ChangeSpec) : _root_.Go.OpenSpec := { _root_.Go.OpenSpec.ofChange s with cond := some uptoSmall }

/-- 'sewershedlaw23.LossesOrder', WHERE WHAT IT READS IS OF BULK AT MOST 1048576: true; the input reads as it did. -/
def lossesOrderUptoRow : OpenClaim := { program := "ytljaibbmceknfaa", sum := "b3da29dc6a9c9019233c930aa921a9b3a0754c6c53d47cb8b2b8f82b2b79c702", func := "sewershed/sewershedlaw23.LossesOrder", spec := "lossesOrder", unfollowed := true, recurses := true, apart := false, narrowed := true }
def LossesOrderUptoSaid : Prop := lossesOrderUptoRow.holds Try.pinned (OpenSpec.upto lossesOrderSpec)

/-- 'sewershedlaw23.LossesSteps', WHERE WHAT IT READS IS OF BULK AT MOST 1048576: true; the input reads as it did. -/
def lossesStepsUptoRow : OpenClaim := { program := "ytljaibbmceknfaa", sum := "b3da29dc6a9c9019233c930aa921a9b3a0754c6c53d47cb8b2b8f82b2b79c702", func := "sewershed/sewershedlaw23.LossesSteps", spec := "lossesSteps", unfollowed := true, recurses := true, apart := false, narrowed := true }
def LossesStepsUptoSaid : Prop := lossesStepsUptoRow.holds Try.pinned (OpenSpec.upto lossesStepsSpec)

/-- 'sewershedlaw23.LossesDries', WHERE WHAT IT READS IS OF BULK AT MOST 1048576: true; the input reads as it did. -/
def lossesDriesUptoRow : OpenClaim := { program := "ytljaibbmceknfaa", sum := "b3da29dc6a9c9019233c930aa921a9b3a0754c6c53d47cb8b2b8f82b2b79c702", func := "sewershed/sewershedlaw23.LossesDries", spec := "lossesDries", unfollowed := true, recurses := true, apart := false, narrowed := true }
def LossesDriesUptoSaid : Prop := lossesDriesUptoRow.holds Try.pinned (OpenSpec.upto lossesDriesSpec)

/-- 'sewershedlaw23.LossesBalance', WHERE WHAT IT READS IS OF BULK AT MOST 1048576: true; the input reads as it did. -/
def lossesBalanceUptoRow : OpenClaim := { program := "ytljaibbmceknfaa", sum := "b3da29dc6a9c9019233c930aa921a9b3a0754c6c53d47cb8b2b8f82b2b79c702", func := "sewershed/sewershedlaw23.LossesBalance", spec := "lossesBalance", unfollowed := true, recurses := true, apart := false, narrowed := true }
def LossesBalanceUptoSaid : Prop := lossesBalanceUptoRow.holds Try.pinned (OpenSpec.upto lossesBalanceSpec)

/-- 'sewershedlaw23.LossesMixed', WHERE WHAT IT READS IS OF BULK AT MOST 1048576: true; the input reads as it did. -/
def lossesMixedUptoRow : OpenClaim := { program := "ytljaibbmceknfaa", sum := "b3da29dc6a9c9019233c930aa921a9b3a0754c6c53d47cb8b2b8f82b2b79c702", func := "sewershed/sewershedlaw23.LossesMixed", spec := "lossesMixed", unfollowed := true, recurses := true, apart := false, narrowed := true }
def LossesMixedUptoSaid : Prop := lossesMixedUptoRow.holds Try.pinned (OpenSpec.upto lossesMixedSpec)

/-- 'sewershedlaw23.LossesRuns', WHERE WHAT IT READS IS OF BULK AT MOST 1048576: true; the input reads as it did. -/
def lossesRunsUptoRow : OpenClaim := { program := "ytljaibbmceknfaa", sum := "b3da29dc6a9c9019233c930aa921a9b3a0754c6c53d47cb8b2b8f82b2b79c702", func := "sewershed/sewershedlaw23.LossesRuns", spec := "lossesRuns", unfollowed := true, recurses := true, apart := false, narrowed := true }
def LossesRunsUptoSaid : Prop := lossesRunsUptoRow.holds Try.pinned (OpenSpec.upto lossesRunsSpec)

/-- 'sewershedlaw23.LossesMixtures', WHERE WHAT IT READS IS OF BULK AT MOST 1048576: true; the input reads as it did. -/
def lossesMixturesUptoRow : OpenClaim := { program := "ytljaibbmceknfaa", sum := "b3da29dc6a9c9019233c930aa921a9b3a0754c6c53d47cb8b2b8f82b2b79c702", func := "sewershed/sewershedlaw23.LossesMixtures", spec := "lossesMixtures", unfollowed := true, recurses := true, apart := false, narrowed := true }
def LossesMixturesUptoSaid : Prop := lossesMixturesUptoRow.holds Try.pinned (OpenSpec.upto lossesMixturesSpec)

end Rows
end Go.Proofs.Ytljaibbmceknfaa
