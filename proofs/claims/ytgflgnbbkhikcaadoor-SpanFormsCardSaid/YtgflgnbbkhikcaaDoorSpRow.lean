/- Spans as arguments: what a reading of them gives. -/
import Derived.Test.YtgflgnbbkhikcaaDoorSpPlain
import Derived.Test.YtgflgnbbkhikcaaDoorCardKit
namespace Go.Proofs.YtgflgnbbkhikcaaDoor
open Go.RowKit Go.ChangeShapes Go.WideShapes Go.ChangeAt
section
variable {H : Type} {enc : TypeId × Value → H} {W : World} {base b0 : Nat} {sp : Nat → Bool} {hd : Bool} {v : Value} {d : DataW H} {p : List MemPlace}
set_option maxRecDepth 100000 in
theorem open_span (hv : Value.okWide Tryd.prog W .any b0 23 v) (h : DataW.Trod enc Tryd.prog W base sp hd 23 v d p) : ∃ c : Sp, v = c.val ∧ -9223372036854775808 ≤ c.lo ∧ c.lo ≤ 9223372036854775807 ∧ -9223372036854775808 ≤ c.hi ∧ c.hi ≤ 9223372036854775807 := by
  obtain ⟨v0, v1, y0, y1, n, rfl, _, _, g0, g1⟩ := Joins.open_agg2 Tryd.underlying23 (by kernel_rfl) (by kernel_rfl) hv h
  obtain ⟨x1, e1, k1⟩ := DataW.trod_int Tryd.underlying3 g0
  obtain ⟨x2, e2, k2⟩ := DataW.trod_int Tryd.underlying3 g1
  simp only [List.cons.injEq, and_true] at e1 e2
  subst e1 e2
  have j1 := i64_of_wf k1.2
  have j2 := i64_of_wf k2.2
  exact ⟨⟨x1, x2⟩, rfl, j1.1, j1.2, j2.1, j2.2⟩
end
end Go.Proofs.YtgflgnbbkhikcaaDoor
