/- Fractions as arguments: what a reading of them gives. -/
import Derived.Test.YtbmckddjdkjplaaDoorRtPlain
import Derived.Test.YtbmckddjdkjplaaDoorCardKit
namespace Go.Proofs.YtbmckddjdkjplaaDoor
open Go.RowKit Go.ChangeShapes Go.WideShapes Go.ChangeAt
section
variable {H : Type} {enc : TypeId × Value → H} {W : World} {base b0 : Nat} {sp : Nat → Bool} {hd : Bool} {v : Value} {d : DataW H} {p : List MemPlace}
set_option maxRecDepth 100000 in
theorem open_frac (hv : Value.okWide Tryd.prog W .any b0 24 v) (h : DataW.Trod enc Tryd.prog W base sp hd 24 v d p) : ∃ c : Fr, v = c.val ∧ -9223372036854775808 ≤ c.num ∧ c.num ≤ 9223372036854775807 ∧ -9223372036854775808 ≤ c.den ∧ c.den ≤ 9223372036854775807 := by
  obtain ⟨v0, v1, y0, y1, n, rfl, _, _, g0, g1⟩ := Joins.open_agg2 Tryd.underlying24 (by kernel_rfl) (by kernel_rfl) hv h
  obtain ⟨x1, e1, k1⟩ := DataW.trod_int Tryd.underlying3 g0
  obtain ⟨x2, e2, k2⟩ := DataW.trod_int Tryd.underlying3 g1
  simp only [List.cons.injEq, and_true] at e1 e2
  subst e1 e2
  have j1 := i64_of_wf k1.2
  have j2 := i64_of_wf k2.2
  exact ⟨⟨x1, x2⟩, rfl, j1.1, j1.2, j2.1, j2.2⟩
end
end Go.Proofs.YtbmckddjdkjplaaDoor
