/- Parts of one proof, joined: Surfaces as arguments: what a reading of them gives. Points as arguments: what a reading of them gives. -/
import Derived.Test.YtbmocghfpcfmhaaGreatDoorPkCostsTrenches2
import Derived.Test.YtbmocghfpcfmhaaGreatDoorPkCostsTrenches10
import Derived.Test.YtbmocghfpcfmhaaGreatDoorPkCostsTrenches24
import Derived.Stop.LaidErr
namespace Go.Proofs.YtbmocghfpcfmhaaGreatDoor
open Go.RowKit Go.ChangeShapes Go.WideShapes Go.ChangeAt

theorem listM_of {α : Type} {P : Nat → α → Prop} : ∀ (n : Nat), (∀ i, i < n → ∃ x, P i x) → ∃ l : List α, l.length = n ∧ ∀ i (h : i < l.length), P i l[i]
  | 0, _ => ⟨[], rfl, fun i h => by simp at h⟩
  | n + 1, h => by
    obtain ⟨l, hl, hp⟩ := listM_of n (fun i hi => h i (by omega))
    obtain ⟨x, hx⟩ := h n (by omega)
    refine ⟨l ++ [x], by simp [hl], fun i hi => ?_⟩
    by_cases k : i < l.length
    · rw [List.getElem_append_left k]; exact hp i k
    · have e : i = n := by simp at hi; omega
      subst e
      subst hl
      simpa using hx
section
variable {H : Type} {enc : TypeId × Value → H} {W : World} {d : DataW H} {p : List MemPlace} {b0 : Nat}
theorem addM_plain (b off n : Nat) : (⟨b, off, none⟩ : Addr).add n = ⟨b, off + n, none⟩ := by
  unfold Addr.add; split <;> simp_all
theorem open_cellSpt {k : Nat} {y : DataW H × List MemPlace} {v : Value} (hf : DataW.trod enc Tryz.prog W 0 (fun _ => true) true k 22 [v] = some y) : ∃ A cap l, v = .slice A (List.length l) cap ∧ SptSl W A l := by
  rcases open_slice_fields Tryz.underlying22 Tryz.underlying60 (by kernel_rfl) (by kernel_rfl) hf with ⟨hcs, _⟩ | ⟨a, len', cap', m, D, Pl, hcs, _, hl, hm, hmm, _, hat⟩
  · simp only [List.cons.injEq, and_true] at hcs
    subst hcs
    exact ⟨none, 0, [], rfl, ⟨by simp, fun i h => by simp at h⟩, fun h => by simp at h⟩
  · simp only [List.cons.injEq, and_true] at hcs
    subst hcs
    simp only [if_true] at hmm
    subst hmm
    have hex : ∀ i, i < len' → ∃ x : Spt, (i64 x.x ∧ i64 x.y ∧ i64 x.z) ∧ W.cell? (a.add (i * 3 + 0)) = some (.int .i64 x.x) ∧ W.cell? (a.add (i * 3 + 1)) = some (.int .i64 x.y) ∧ W.cell? (a.add (i * 3 + 2)) = some (.int .i64 x.z) := fun i hi => by
      obtain ⟨ys, n, _, _, _, hf⟩ := hat i (by omega)
      obtain ⟨v0, y0, hc0, _, ht0⟩ := hf 0 _ rfl
      obtain ⟨v1, y1, hc1, _, ht1⟩ := hf 1 _ rfl
      obtain ⟨v2, y2, hc2, _, ht2⟩ := hf 2 _ rfl
      obtain ⟨x0, e0, _, w0⟩ := DataW.trod_int Tryz.underlying3 ht0
      obtain ⟨x1, e1, _, w1⟩ := DataW.trod_int Tryz.underlying3 ht1
      obtain ⟨x2, e2, _, w2⟩ := DataW.trod_int Tryz.underlying3 ht2
      simp only [List.cons.injEq, and_true] at e0 e1 e2
      subst e0 e1 e2
      exact ⟨⟨x0, x1, x2⟩, ⟨i64_of_wf w0, i64_of_wf w1, i64_of_wf w2⟩, hc0, hc1, hc2⟩
    obtain ⟨l, hlen, hl'⟩ := listM_of len' hex
    refine ⟨some a, m, l, by rw [hlen], ⟨by omega, fun i hi => (hl' i hi).1⟩, fun h0 => ?_⟩
    obtain ⟨b, off, spot⟩ := a
    have hspot : spot = none := by simpa [Addr.add] using World.cell?_spot (hl' 0 h0).2.1
    subst hspot
    simp only [addM_plain] at hl'
    refine ⟨b, off, rfl, lt_of_cell (p := ⟨b, off + (0 * 3 + 0), none⟩) (hl' 0 h0).2.1, fun i hi => ?_⟩
    obtain ⟨_, k0, k1, k2⟩ := hl' i hi
    exact ⟨by simpa using k0, by simpa [Nat.add_assoc] using k1, by simpa [Nat.add_assoc] using k2⟩
theorem open_cellFce {k : Nat} {y : DataW H × List MemPlace} {v : Value} (hf : DataW.trod enc Tryz.prog W 0 (fun _ => true) true k 23 [v] = some y) : ∃ A cap l, v = .slice A (List.length l) cap ∧ FceSl W A l := by
  rcases open_slice_fields Tryz.underlying23 Tryz.underlying62 (by kernel_rfl) (by kernel_rfl) hf with ⟨hcs, _⟩ | ⟨a, len', cap', m, D, Pl, hcs, _, hl, hm, hmm, _, hat⟩
  · simp only [List.cons.injEq, and_true] at hcs
    subst hcs
    exact ⟨none, 0, [], rfl, ⟨by simp, fun i h => by simp at h⟩, fun h => by simp at h⟩
  · simp only [List.cons.injEq, and_true] at hcs
    subst hcs
    simp only [if_true] at hmm
    subst hmm
    have hex : ∀ i, i < len' → ∃ x : Fce, (i64 x.a ∧ i64 x.b ∧ i64 x.c ∧ i64 x.k) ∧ W.cell? (a.add (i * 4 + 0)) = some (.int .i64 x.a) ∧ W.cell? (a.add (i * 4 + 1)) = some (.int .i64 x.b) ∧ W.cell? (a.add (i * 4 + 2)) = some (.int .i64 x.c) ∧ W.cell? (a.add (i * 4 + 3)) = some (.int .i64 x.k) := fun i hi => by
      obtain ⟨ys, n, _, _, _, hf⟩ := hat i (by omega)
      obtain ⟨v0, y0, hc0, _, ht0⟩ := hf 0 _ rfl
      obtain ⟨v1, y1, hc1, _, ht1⟩ := hf 1 _ rfl
      obtain ⟨v2, y2, hc2, _, ht2⟩ := hf 2 _ rfl
      obtain ⟨v3, y3, hc3, _, ht3⟩ := hf 3 _ rfl
      obtain ⟨x0, e0, _, w0⟩ := DataW.trod_int Tryz.underlying3 ht0
      obtain ⟨x1, e1, _, w1⟩ := DataW.trod_int Tryz.underlying3 ht1
      obtain ⟨x2, e2, _, w2⟩ := DataW.trod_int Tryz.underlying3 ht2
      obtain ⟨x3, e3, _, w3⟩ := DataW.trod_int Tryz.underlying3 ht3
      simp only [List.cons.injEq, and_true] at e0 e1 e2 e3
      subst e0 e1 e2 e3
      exact ⟨⟨x0, x1, x2, x3⟩, ⟨i64_of_wf w0, i64_of_wf w1, i64_of_wf w2, i64_of_wf w3⟩, hc0, hc1, hc2, hc3⟩
    obtain ⟨l, hlen, hl'⟩ := listM_of len' hex
    refine ⟨some a, m, l, by rw [hlen], ⟨by omega, fun i hi => (hl' i hi).1⟩, fun h0 => ?_⟩
    obtain ⟨b, off, spot⟩ := a
    have hspot : spot = none := by simpa [Addr.add] using World.cell?_spot (hl' 0 h0).2.1
    subst hspot
    simp only [addM_plain] at hl'
    refine ⟨b, off, rfl, lt_of_cell (p := ⟨b, off + (0 * 4 + 0), none⟩) (hl' 0 h0).2.1, fun i hi => ?_⟩
    obtain ⟨_, k0, k1, k2, k3⟩ := hl' i hi
    exact ⟨by simpa using k0, by simpa [Nat.add_assoc] using k1, by simpa [Nat.add_assoc] using k2, by simpa [Nat.add_assoc] using k3⟩
set_option maxRecDepth 100000 in
theorem open_mesh {v : Value} (hv : Value.okWide Tryz.prog W .any b0 25 v) (h : DataW.Trod enc Tryz.prog W 0 (fun _ => true) true 25 v d p) : ∃ c : Msh × MshA, v = c.1.val c.2 ∧ MshSl W c.1 c.2 := by
  obtain ⟨v0, v1, y0, y1, n, rfl, _, _, g0, g1⟩ := Joins.open_agg2 Tryz.underlying25 (by kernel_rfl) (by kernel_rfl) hv h
  obtain ⟨A1, c1, l1, rfl, h1⟩ := open_cellSpt g0
  obtain ⟨A2, c2, l2, rfl, h2⟩ := open_cellFce g1
  exact ⟨⟨⟨l1, l2⟩, ⟨A1, c1, A2, c2⟩⟩, rfl, h1, h2⟩
end
end Go.Proofs.YtbmocghfpcfmhaaGreatDoor

namespace Go.Proofs.YtbmocghfpcfmhaaGreatDoor
open Go.RowKit Go.ChangeShapes Go.WideShapes Go.ChangeAt
section
variable {H : Type} {enc : TypeId × Value → H} {W : World} {base b0 : Nat} {sp : Nat → Bool} {hd : Bool} {v : Value} {d : DataW H} {p : List MemPlace}
set_option maxRecDepth 100000 in
theorem open_point (hv : Value.okWide Tryz.prog W .any b0 27 v) (h : DataW.Trod enc Tryz.prog W base sp hd 27 v d p) : ∃ c : Pnt, v = c.val ∧ True := by
  obtain ⟨v0, v1, y0, y1, n, rfl, _, _, g0, g1⟩ := Joins.open_agg2 Tryz.underlying27 (by kernel_rfl) (by kernel_rfl) hv h
  obtain ⟨x1, e1, k1⟩ := DataW.trod_int Tryz.underlying3 g0
  obtain ⟨x2, e2, k2⟩ := DataW.trod_int Tryz.underlying3 g1
  simp only [List.cons.injEq, and_true] at e1 e2
  subst e1 e2
  exact ⟨⟨x1, x2⟩, rfl, trivial⟩
end
end Go.Proofs.YtbmocghfpcfmhaaGreatDoor
