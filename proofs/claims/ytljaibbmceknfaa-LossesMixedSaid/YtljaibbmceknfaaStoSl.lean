/- Slices of stores in memory, said of lists. -/
import Derived.Test.YtljaibbmceknfaaLossPlain
import Derived.Test.YtljaibbmceknfaaOwn2
namespace Go.Proofs.Ytljaibbmceknfaa
open Go.RowKit

def StoAt (w : World) (b o : Nat) (s : Sto) : Prop := w.cell? ⟨b, o, none⟩ = some (.int .i64 s.wt) ∧ w.cell? ⟨b, o + 1, none⟩ = some (.int .i64 s.he)
theorem StoAt.below {w w' : World} {b o : Nat} {s : Sto} (h : StoAt w b o s) (hb : Below w.heap.size w w') : StoAt w' b o s := by
  have hlt := lt_of_cell h.1
  have k := fun (i : Nat) => hb.cell (p := ⟨b, i, none⟩) hlt
  exact ⟨(k _).trans h.1, (k _).trans h.2⟩
/-- a slice of stores that reads as a list -/
def StoSl (w : World) (A : Option Addr) (l : List Sto) : Prop :=
  l.length ≤ maxLen ∧ (0 < l.length → ∃ b off, A = some ⟨b, off, none⟩ ∧ b < w.heap.size ∧ ∀ i (h : i < l.length), StoAt w b (off + i * 2) l[i])
theorem StoSl.below {w w' : World} {A : Option Addr} {l : List Sto} (h : StoSl w A l) (hb : Below w.heap.size w w') : StoSl w' A l :=
  ⟨h.1, fun hl => by obtain ⟨b, off, e, hlt, hat⟩ := h.2 hl; exact ⟨b, off, e, Nat.lt_of_lt_of_le hlt hb.size, fun i hi => (hat i hi).below hb⟩⟩
theorem StoSl.nil (w : World) (A : Option Addr) : StoSl w A [] := ⟨by simp, fun h => by simp at h⟩
/-- the cells of a list of stores -/
def flatS : List Sto → List Value
  | [] => []
  | s :: l => .int .i64 s.wt :: .int .i64 s.he :: flatS l
theorem flatS_length : ∀ l : List Sto, (flatS l).length = l.length * 2
  | [] => rfl
  | s :: l => by simp only [flatS, List.length_cons, flatS_length l]; omega
theorem flatS_append : ∀ (l : List Sto) (s : Sto), flatS (l ++ [s]) = flatS l ++ [.int .i64 s.wt, .int .i64 s.he]
  | [], _ => rfl
  | x :: l, s => by simp only [flatS, List.cons_append, flatS_append l s]
theorem flatS_at : ∀ (l : List Sto) (i : Nat) (h : i < l.length), (flatS l)[i * 2]? = some (.int .i64 l[i].wt) ∧ (flatS l)[i * 2 + 1]? = some (.int .i64 l[i].he)
  | [], _, h => by simp at h
  | s :: l, 0, _ => ⟨rfl, rfl⟩
  | s :: l, i + 1, h => by
    have k := flatS_at l i (by simpa using h)
    have e : (i + 1) * 2 = i * 2 + 1 + 1 := by omega
    rw [e]
    exact k
/-- a row of the call's own that holds stores, read as a slice -/
theorem StoSl.of_row {w : World} {base : Nat} {e : TypeId} {A : Option Addr} {m c n : Nat} {l : List Sto} (h : w.ownsRow base e 2 (.slice A m c) n (flatS l)) (hb : l.length ≤ maxLen) : m = l.length ∧ StoSl w A l := by
  have hn : l.length = n := by have := h.1; rw [flatS_length] at this; omega
  rcases h.2 with ⟨e', h0⟩ | ⟨g, cap, cur, e', hg, hcell, hnc, _, hsz, htake⟩
  · injection e' with e1 e2 e3
    rw [h0] at hn
    have : l = [] := List.eq_nil_of_length_eq_zero hn
    subst this
    exact ⟨e2, StoSl.nil w A⟩
  · injection e' with e1 e2 e3
    subst hn e1
    refine ⟨e2, hb, fun _ => ⟨g, 0, rfl, (Array.getElem?_eq_some_iff.1 hcell).1, fun i hi => ?_⟩⟩
    obtain ⟨k1, k2⟩ := flatS_at l i hi
    have c1 := h.cells (g := g) rfl (i * 2) _ k1
    have c2 := h.cells (g := g) rfl (i * 2 + 1) _ k2
    have ea : ∀ j, (⟨g, 0, none⟩ : Addr).add j = ⟨g, 0 + j, none⟩ := fun j => by unfold Addr.add; split <;> simp_all
    rw [ea] at c1 c2
    exact ⟨c1, c2⟩
end Go.Proofs.Ytljaibbmceknfaa
