/- Tables of intensities in memory. -/
import Derived.Test.YtnhimgabcljahaaGreatDoorItRefP
import Derived.Test.YtnhimgabcljahaaGreatDoorOwn2
namespace Go.Proofs.YtnhimgabcljahaaGreatDoor
open Go.RowKit

theorem IntSl.at_ {w : World} {A : Option Addr} {l : List Int} (h : IntSl w A l) (h0 : 0 < l.length) : ∃ b off, A = some ⟨b, off, none⟩ ∧ b < w.heap.size ∧ ∀ i, i < l.length → w.cell? ⟨b, off + i, none⟩ = some (.int .i64 (l.getD i 0)) := by
  obtain ⟨b, off, e, hb, hat⟩ := h.2 h0
  refine ⟨b, off, e, hb, fun i hi => ?_⟩
  rw [hat i hi]; simp [hi]
/-- a slice of rows of integers -/
def RowsSl (w : World) (A : Option Addr) (rows : List (List Int)) : Prop :=
  rows.length ≤ maxLen ∧ (0 < rows.length → ∃ b off, A = some ⟨b, off, none⟩ ∧ b < w.heap.size ∧ ∀ i, i < rows.length → ∃ R c, w.cell? ⟨b, off + i, none⟩ = some (.slice R (rows.getD i []).length c) ∧ IntSl w R (rows.getD i []) ∧ (rows.getD i []).length ≤ c)
theorem RowsSl.below {w w' : World} {A : Option Addr} {l : List (List Int)} (h : RowsSl w A l) (hb : Below w.heap.size w w') : RowsSl w' A l :=
  ⟨h.1, fun hl => by
    obtain ⟨b, off, e, hlt, hat⟩ := h.2 hl
    refine ⟨b, off, e, Nat.lt_of_lt_of_le hlt hb.size, fun i hi => ?_⟩
    obtain ⟨R, c, h1, h2, h3⟩ := hat i hi
    exact ⟨R, c, (hb.cell (p := ⟨b, off + i, none⟩) hlt).trans h1, h2.below hb, h3⟩⟩
/-- where a table lies -/
structure TabA where
  A1 : Option Addr
  A2 : Option Addr
  A3 : Option Addr
  c1 : Nat
  c2 : Nat
  c3 : Nat
abbrev Tab.val (T : Tab) (a : TabA) : Value := .agg #[.slice a.A1 T.ds.length a.c1, .slice a.A2 T.ps.length a.c2, .slice a.A3 T.rows.length a.c3]
abbrev Tab.cells (T : Tab) (a : TabA) : Array Value := #[.slice a.A1 T.ds.length a.c1, .slice a.A2 T.ps.length a.c2, .slice a.A3 T.rows.length a.c3]
def TabSl (w : World) (T : Tab) (a : TabA) : Prop := IntSl w a.A1 T.ds ∧ IntSl w a.A2 T.ps ∧ RowsSl w a.A3 T.rows ∧ T.ds.length ≤ a.c1 ∧ T.ps.length ≤ a.c2 ∧ T.rows.length ≤ a.c3
theorem TabSl.below {w w' : World} {T : Tab} {a : TabA} (h : TabSl w T a) (hb : Below w.heap.size w w') : TabSl w' T a := ⟨h.1.below hb, h.2.1.below hb, h.2.2.1.below hb, h.2.2.2⟩
end Go.Proofs.YtnhimgabcljahaaGreatDoor
