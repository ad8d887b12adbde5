/- Rows of classes of the call's own, read as slices. -/
import Derived.Test.YtaaadejamjbcbaaDoorClsPlain
import Derived.Test.YtaaadejamjbcbaaDoorOwn2
namespace Go.Proofs.YtaaadejamjbcbaaDoor
open Go Go.RowKit

abbrev Cls.cs (c : Cls) : List Value := [.string c.nm, .int .i64 c.se, .int .i64 c.we, .int .i64 c.ro, .int .i64 c.dr]
def flatC (l : List Cls) : List Value := l.flatMap Cls.cs
theorem flatC_append (a b : List Cls) : flatC (a ++ b) = flatC a ++ flatC b := by simp [flatC]
theorem flatC_len (l : List Cls) : (flatC l).length = l.length * 5 := by
  induction l with
  | nil => rfl
  | cons c l ih => simp only [flatC, List.flatMap_cons, List.length_append, List.length_cons] at ih ⊢; rw [ih]; simp; omega
theorem flatC_at : ∀ (l : List Cls) (i : Nat) (h : i < l.length), (flatC l)[i * 5]? = some (.string l[i].nm) ∧ (flatC l)[i * 5 + 1]? = some (.int .i64 l[i].se) ∧ (flatC l)[i * 5 + 2]? = some (.int .i64 l[i].we) ∧ (flatC l)[i * 5 + 3]? = some (.int .i64 l[i].ro) ∧ (flatC l)[i * 5 + 4]? = some (.int .i64 l[i].dr)
  | [], i, h => absurd h (by simp)
  | c :: l, 0, _ => ⟨rfl, rfl, rfl, rfl, rfl⟩
  | c :: l, i + 1, h => by
    have ih := flatC_at l i (by simpa using h)
    have e : flatC (c :: l) = c.cs ++ flatC l := rfl
    have k : ∀ j, (flatC (c :: l))[(i + 1) * 5 + j]? = (flatC l)[i * 5 + j]? := fun j => by
      rw [e, List.getElem?_append_right (by simp; omega)]
      congr 1
      simp; omega
    exact ⟨(k 0).trans ih.1, (k 1).trans ih.2.1, (k 2).trans ih.2.2.1, (k 3).trans ih.2.2.2.1, (k 4).trans ih.2.2.2.2⟩
theorem ClsSl.nil (w : World) (A : Option Addr) : ClsSl w A [] := ⟨⟨by simp, fun i h => by simp at h⟩, fun h => by simp at h⟩
theorem ClsSl.of_row {w : World} {base : Nat} {e : TypeId} {v : Value} {n : Nat} {l : List Cls} (h : w.ownsRow base e 5 v n (flatC l)) (hb : l.length ≤ maxLen) (hm : ∀ i (h : i < l.length), l[i].nm.size ≤ maxLen) : ∃ A c, v = .slice A l.length c ∧ ClsSl w A l ∧ l.length ≤ c := by
  have hn : l.length = n := by have := h.1; rw [flatC_len] at this; omega
  rcases h.2 with ⟨rfl, h0⟩ | ⟨g, cap, cur, rfl, hg, hcell, hnc, _, hsz, htake⟩
  · rw [h0] at hn
    have : l = [] := List.eq_nil_of_length_eq_zero hn
    subst this
    exact ⟨none, 0, rfl, ClsSl.nil w none, by simp⟩
  · subst hn
    refine ⟨some ⟨g, 0, none⟩, cap, rfl, ⟨⟨hb, hm⟩, fun _ => ⟨g, 0, rfl, (Array.getElem?_eq_some_iff.1 hcell).1, fun i hi => ?_⟩⟩, hnc⟩
    have k := fun j u (hu : (flatC l)[j]? = some u) => (show w.cell? ⟨g, 0 + j, none⟩ = some u by
      have hc := h.cells (g := g) rfl j u hu
      have e : (⟨g, 0, none⟩ : Addr).add j = ⟨g, 0 + j, none⟩ := by unfold Addr.add; split <;> simp_all
      rw [e] at hc
      exact hc)
    obtain ⟨a0, a1, a2, a3, a4⟩ := flatC_at l i hi
    exact ⟨k _ _ a0, k _ _ a1, k _ _ a2, k _ _ a3, k _ _ a4⟩
theorem cls_info : (Tryd.prog.info? 54).map (fun i => (i.zero, i.size, i.bytes)) = some (some (.agg #[.string ⟨#[]⟩, .int .i64 0, .int .i64 0, .int .i64 0, .int .i64 0]), 5, 48) := by kernel_rfl
end Go.Proofs.YtaaadejamjbcbaaDoor
