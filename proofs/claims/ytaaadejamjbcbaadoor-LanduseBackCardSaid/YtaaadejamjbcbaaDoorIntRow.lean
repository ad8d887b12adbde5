/- Slices of integers as arguments: what a reading of them gives. -/
import Derived.Test.YtaaadejamjbcbaaDoorOwn2
import Derived.Test.YtaaadejamjbcbaaDoorRow
namespace Go.Proofs.YtaaadejamjbcbaaDoor
open Go.RowKit Go.ChangeShapes Go.WideShapes Go.ChangeAt
section
variable {H : Type} {enc : TypeId × Value → H} {W : World} {v : Value} {d : DataW H} {p : List MemPlace} {b0 : Nat}
set_option maxRecDepth 100000 in
theorem open_intS (hv : Value.okWide Tryd.prog W .any b0 22 v) (h : DataW.Trod enc Tryd.prog W 0 (fun _ => true) true 22 v d p) : ∃ A cap l, v = .slice A (List.length l) cap ∧ IntSl W A l := by
  obtain ⟨a0, len, cap, rfl⟩ := okWide_slice Tryd.underlying22 hv
  obtain ⟨fuel, hf⟩ := h
  rcases open_ints Tryd.underlying22 Tryd.underlying3 (by kernel_rfl) hf with ⟨hcs, _⟩ | ⟨a, len', cap', zs, hcs, _, hl, hm, hz, _, hcell, hwz⟩
  · simp only [Value.cells, List.cons.injEq, Value.slice.injEq, and_true] at hcs
    obtain ⟨rfl, rfl, rfl⟩ := hcs
    exact ⟨none, 0, [], rfl, IntSl.nil _ _⟩
  · simp only [Value.cells, List.cons.injEq, Value.slice.injEq, and_true] at hcs
    obtain ⟨rfl, rfl, rfl⟩ := hcs
    simp only [if_true] at hz
    have hlen : (zs.take len).length = len := by rw [List.length_take]; omega
    refine ⟨some a, cap, zs.take len, by rw [hlen], ⟨?_, ?_⟩, ?_⟩
    · unfold maxLen at hm; omega
    · intro i hi
      have : (zs.take len)[i] ∈ zs := List.mem_of_mem_take (List.getElem_mem hi)
      have := hwz _ this
      simpa [Lit.wf, IntKind.min, IntKind.max, IntKind.signed, IntKind.bits] using this
    · intro h0
      obtain ⟨b, off, rfl, hc⟩ := ints_at hcell (by omega)
      refine ⟨b, off, rfl, ?_, fun i hi => ?_⟩
      · have := hc 0 (by omega)
        exact lt_of_cell (p := ⟨b, off + 0, none⟩) this
      · have hi' : i < zs.length := by omega
        rw [hc i hi']
        simp [hi']
end
end Go.Proofs.YtaaadejamjbcbaaDoor
