/- Classes and stores as arguments: what a reading of them gives. -/
import Derived.Test.YtljaibbmceknfaaLossPlain
import Derived.Test.YtljaibbmceknfaaRow
namespace Go.Proofs.Ytljaibbmceknfaa
open Go.RowKit Go.ChangeShapes Go.WideShapes Go.ChangeAt
theorem i64_of_wf {n : Int} (h : (Lit.int .i64 n).wf = true) : -9223372036854775808 ≤ n ∧ n ≤ 9223372036854775807 := by
  simpa [Lit.wf, IntKind.min, IntKind.max, IntKind.signed, IntKind.bits] using h
section
variable {H : Type} {enc : TypeId × Value → H} {W : World} {base b0 : Nat} {sp : Nat → Bool} {hd : Bool} {v : Value} {d : DataW H} {p : List MemPlace}
theorem open_cls (hv : Value.okWide Try.prog W .any b0 23 v) (h : DataW.Trod enc Try.prog W base sp hd 23 v d p) : ∃ c : Cls, v = c.val ∧ c.nm.size ≤ maxLen := by
  obtain ⟨v0, v1, v2, v3, v4, y0, y1, y2, y3, y4, n, rfl, _, _, g0, g1, g2, g3, g4⟩ := open_agg5 Try.underlying23 (by kernel_rfl) (by kernel_rfl) hv h
  obtain ⟨s, e0, _, hs⟩ := DataW.trod_string Try.underlying9 g0
  obtain ⟨x1, e1, _⟩ := DataW.trod_int Try.underlying3 g1
  obtain ⟨x2, e2, _⟩ := DataW.trod_int Try.underlying3 g2
  obtain ⟨x3, e3, _⟩ := DataW.trod_int Try.underlying3 g3
  obtain ⟨x4, e4, _⟩ := DataW.trod_int Try.underlying3 g4
  simp only [List.cons.injEq, and_true] at e0 e1 e2 e3 e4
  subst e0 e1 e2 e3 e4
  exact ⟨⟨s, x1, x2, x3, x4⟩, rfl, hs⟩
theorem open_sto (hv : Value.okWide Try.prog W .any b0 25 v) (h : DataW.Trod enc Try.prog W base sp hd 25 v d p) : ∃ c : Sto, v = c.val ∧ True := by
  obtain ⟨v0, v1, y0, y1, n, rfl, _, _, g0, g1⟩ := Joins.open_agg2 Try.underlying25 (by kernel_rfl) (by kernel_rfl) hv h
  obtain ⟨x1, e1, _⟩ := DataW.trod_int Try.underlying3 g0
  obtain ⟨x2, e2, _⟩ := DataW.trod_int Try.underlying3 g1
  simp only [List.cons.injEq, and_true] at e1 e2
  subst e1 e2
  exact ⟨⟨x1, x2⟩, rfl, trivial⟩
end
end Go.Proofs.Ytljaibbmceknfaa
