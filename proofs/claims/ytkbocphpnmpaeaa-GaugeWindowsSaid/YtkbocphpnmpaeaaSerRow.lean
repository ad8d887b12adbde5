/- Records of rain as arguments: what a reading of them gives. -/
import Derived.Test.YtkbocphpnmpaeaaGgPlain
import Derived.Test.YtkbocphpnmpaeaaCardKit
namespace Go.Proofs.Ytkbocphpnmpaeaa
open Go.RowKit Go.ChangeShapes Go.WideShapes Go.ChangeAt
section
variable {H : Type} {enc : TypeId × Value → H} {W : World} {v : Value} {d : DataW H} {p : List MemPlace} {b0 : Nat}
theorem ints_cellG {n : Nat} {y : DataW H × List MemPlace} (h : DataW.trod enc Try.prog W 0 (fun _ => true) true n 22 [v] = some y) : ∃ A cap l, v = .slice A (List.length l) cap ∧ IntSl W A l ∧ l.length ≤ cap ∧ (A = none → cap = 0) := by
  rcases open_ints Try.underlying22 Try.underlying3 (by kernel_rfl) h with ⟨hcs, _⟩ | ⟨a, len', cap', zs, hcs, _, hl, hm, hz, _, hcell, hwz⟩
  · simp only [List.cons.injEq, and_true] at hcs
    subst hcs
    exact ⟨none, 0, [], rfl, IntSl.nil _ _, by simp, fun _ => rfl⟩
  · simp only [List.cons.injEq, and_true] at hcs
    subst hcs
    simp only [if_true] at hz
    have hlen : (zs.take len').length = len' := by rw [List.length_take]; omega
    refine ⟨some a, cap', zs.take len', by rw [hlen], ⟨⟨?_, ?_⟩, ?_⟩, by rw [hlen]; exact hl, fun h => by cases h⟩
    · unfold maxLen at hm; omega
    · intro i hi
      have : (zs.take len')[i] ∈ zs := List.mem_of_mem_take (List.getElem_mem hi)
      have := hwz _ this
      simpa [Lit.wf, IntKind.min, IntKind.max, IntKind.signed, IntKind.bits] using this
    · intro h0
      obtain ⟨b, off, rfl, hc⟩ := ints_at hcell (by omega)
      refine ⟨b, off, rfl, ?_, fun i hi => ?_⟩
      · have := hc 0 (by omega)
        exact lt_of_cell (p := ⟨b, off + 0, none⟩) this
      · have hi' : i < zs.length := by omega
        rw [hc i hi']
        simp [hi']
theorem i64_of_wfG {x : Int} (h : (Lit.int .i64 x).wf = true) : -9223372036854775808 ≤ x ∧ x ≤ 9223372036854775807 := by
  simpa [Lit.wf, IntKind.min, IntKind.max, IntKind.signed, IntKind.bits] using h
set_option maxRecDepth 100000 in
theorem open_ser2 (hv : Value.okWide Try.prog W .any b0 24 v) (h : DataW.Trod enc Try.prog W 0 (fun _ => true) true 24 v d p) : ∃ c : Ser × SerA, v = c.1.val c.2 ∧ SerSl W c.1 c.2 ∧ (c.2.A = none → c.2.c = 0) := by
  obtain ⟨v0, v1, v2, y0, y1, y2, n, rfl, _, _, g0, g1, g2⟩ := Joins.open_agg3 Try.underlying24 (by kernel_rfl) (by kernel_rfl) hv h
  obtain ⟨x0, e0, _, w0⟩ := DataW.trod_int Try.underlying3 g0
  obtain ⟨x1, e1, _, w1⟩ := DataW.trod_int Try.underlying3 g1
  simp only [List.cons.injEq, and_true] at e0 e1
  subst e0 e1
  obtain ⟨A, c, l, rfl, h1, k1, k2⟩ := ints_cellG g2
  exact ⟨⟨⟨x0, x1, l⟩, ⟨A, c⟩⟩, rfl, ⟨h1, k1, i64_of_wfG w0, i64_of_wfG w1⟩, k2⟩
theorem open_ser (hv : Value.okWide Try.prog W .any b0 24 v) (h : DataW.Trod enc Try.prog W 0 (fun _ => true) true 24 v d p) : ∃ c : Ser × SerA, v = c.1.val c.2 ∧ SerSl W c.1 c.2 := by
  obtain ⟨c, e, h, _⟩ := open_ser2 hv h
  exact ⟨c, e, h⟩
/-- a byte as an argument -/
structure U8 where
  n : Nat
abbrev U8.val (x : U8) : Value := .int .u8 (x.n : Int)
theorem open_u8 (hv : Value.okWide Try.prog W .any b0 5 v) (h : DataW.Trod enc Try.prog W 0 (fun _ => true) true 5 v d p) : ∃ c : U8, v = c.val ∧ c.n ≤ 255 := by
  obtain ⟨x0, e0, _, w0⟩ := open_int Try.underlying5 hv h
  have w1 : 0 ≤ x0 ∧ x0 ≤ 255 := by simpa [Lit.wf, IntKind.min, IntKind.max, IntKind.signed, IntKind.bits] using w0.2
  exact ⟨⟨x0.toNat⟩, by rw [e0]; show _ = Value.int .u8 ((x0.toNat : Nat) : Int); rw [Int.toNat_of_nonneg w1.1], by show x0.toNat ≤ 255; omega⟩
end
end Go.Proofs.Ytkbocphpnmpaeaa
