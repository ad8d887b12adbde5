/- Tables of intensities as arguments: what a reading of them gives. -/
import Derived.Test.YtnhimgabcljahaaGreatDoorItSl
import Derived.Test.YtnhimgabcljahaaGreatDoorCardKit
namespace Go.Proofs.YtnhimgabcljahaaGreatDoor
open Go.RowKit Go.ChangeShapes Go.WideShapes Go.ChangeAt
section
variable {H : Type} {enc : TypeId × Value → H} {W : World} {v : Value} {d : DataW H} {p : List MemPlace} {b0 : Nat}
theorem ints_cell {n : Nat} {y : DataW H × List MemPlace} (h : DataW.trod enc Tryz.prog W 0 (fun _ => true) true n 22 [v] = some y) : ∃ A cap l, v = .slice A (List.length l) cap ∧ IntSl W A l ∧ l.length ≤ cap := by
  rcases open_ints Tryz.underlying22 Tryz.underlying3 (by kernel_rfl) h with ⟨hcs, _⟩ | ⟨a, len', cap', zs, hcs, _, hl, hm, hz, _, hcell, hwz⟩
  · simp only [List.cons.injEq, and_true] at hcs
    subst hcs
    exact ⟨none, 0, [], rfl, IntSl.nil _ _, by simp⟩
  · simp only [List.cons.injEq, and_true] at hcs
    subst hcs
    simp only [if_true] at hz
    have hlen : (zs.take len').length = len' := by rw [List.length_take]; omega
    refine ⟨some a, cap', zs.take len', by rw [hlen], ⟨⟨?_, ?_⟩, ?_⟩, by rw [hlen]; exact hl⟩
    · unfold maxLen at hm; omega
    · intro i hi
      have : (zs.take len')[i] ∈ zs := List.mem_of_mem_take (List.getElem_mem hi)
      have := hwz _ this
      simpa [Lit.wf, IntKind.min, IntKind.max, IntKind.signed, IntKind.bits] using this
    · intro h0
      obtain ⟨b, off, rfl, hc⟩ := ints_at hcell (by omega)
      refine ⟨b, off, rfl, ?_, fun i hi => ?_⟩
      · have := hc 0 (by omega)
        exact lt_of_cell (p := ⟨b, off + 0, none⟩) this
      · have hi' : i < zs.length := by omega
        rw [hc i hi']
        simp [hi']
theorem rows_cell {n : Nat} {y : DataW H × List MemPlace} (h : DataW.trod enc Tryz.prog W 0 (fun _ => true) true n 23 [v] = some y) : ∃ A cap l, v = .slice A (List.length l) cap ∧ RowsSl W A l ∧ l.length ≤ cap := by
  rcases Deep.open_slice1 Tryz.underlying23 (by kernel_rfl) h with ⟨hcs, _⟩ | ⟨a, len, cap, m, k, V, D, Pl, hcs, _, hl, hm, hmm, _, hat⟩
  · simp only [List.cons.injEq, and_true] at hcs
    subst hcs
    exact ⟨none, 0, [], rfl, ⟨by simp, fun h => by simp at h⟩, by simp⟩
  · simp only [List.cons.injEq, and_true] at hcs
    subst hcs
    simp only [if_true] at hmm
    subst hmm
    obtain ⟨L, hL⟩ := Deep.choose_lt (α := List Int) (n := len) (p := fun i l => ∃ R c, W.cell? (a.add i) = some (.slice R l.length c) ∧ IntSl W R l ∧ l.length ≤ c) (fun i hi => by
      obtain ⟨h1, h2⟩ := hat i (by omega)
      obtain ⟨R, c, l, e, h3, h4⟩ := ints_cell h2
      exact ⟨l, R, c, by rw [h1, e], h3, h4⟩)
    have hlen : ((List.range len).map L).length = len := by simp
    refine ⟨some a, m, (List.range len).map L, by rw [hlen], ⟨by rw [hlen]; omega, fun h0 => ?_⟩, by rw [hlen]; exact hl⟩
    obtain ⟨b, off, spot⟩ := a
    obtain ⟨R0, k0, q0, _⟩ := hL 0 (by omega)
    have hspot : spot = none := by simpa [Addr.add] using World.cell?_spot q0
    subst hspot
    have ea : ∀ j, (⟨b, off, none⟩ : Addr).add j = ⟨b, off + j, none⟩ := fun j => by unfold Addr.add; split <;> simp_all
    refine ⟨b, off, rfl, ?_, fun i hi => ?_⟩
    · rw [ea] at q0
      exact lt_of_cell (p := ⟨b, off + 0, none⟩) q0
    · obtain ⟨R, c, h1, h2, h3⟩ := hL i (by omega)
      rw [ea] at h1
      have e : ((List.range len).map L).getD i [] = L i := by
        have : i < len := by omega
        simp [this]
      rw [e]
      exact ⟨R, c, h1, h2, h3⟩
set_option maxRecDepth 100000 in
theorem open_tab (hv : Value.okWide Tryz.prog W .any b0 25 v) (h : DataW.Trod enc Tryz.prog W 0 (fun _ => true) true 25 v d p) : ∃ c : Tab × TabA, v = c.1.val c.2 ∧ TabSl W c.1 c.2 := by
  obtain ⟨v0, v1, v2, y0, y1, y2, n, rfl, _, _, g0, g1, g2⟩ := Joins.open_agg3 Tryz.underlying25 (by kernel_rfl) (by kernel_rfl) hv h
  obtain ⟨A1, c1, l1, rfl, h1, k1⟩ := ints_cell g0
  obtain ⟨A2, c2, l2, rfl, h2, k2⟩ := ints_cell g1
  obtain ⟨A3, c3, l3, rfl, h3, k3⟩ := rows_cell g2
  exact ⟨⟨⟨l1, l2, l3⟩, ⟨A1, A2, A3, c1, c2, c3⟩⟩, rfl, h1, h2, h3, k1, k2, k3⟩
end
end Go.Proofs.YtnhimgabcljahaaGreatDoor
