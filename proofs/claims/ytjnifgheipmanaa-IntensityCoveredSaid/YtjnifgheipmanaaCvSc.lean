/- slices.Clone at integers; what Scale holds: a table in the making, row by row. -/
import Derived.Test.YtjnifgheipmanaaRcOf
import Derived.Test.YtjnifgheipmanaaItAwk
import Derived.Test.YtjnifgheipmanaaOwnQ
import Derived.Test.YtjnifgheipmanaaShelf3
namespace Go.Proofs.Ytjnifgheipmanaa
open Go.RowKit

theorem row_slice2 {w : World} {base : Nat} {e : TypeId} {size n : Nat} {v : Value} {xs : List Value} (h : w.ownsRow base e size v n xs) : ∃ A c, v = .slice A n c ∧ n ≤ c := by
  rcases h.2 with ⟨rfl, rfl⟩ | ⟨g, cp, cur, rfl, _, _, h, _⟩
  · exact ⟨_, _, rfl, Nat.le_refl _⟩
  · exact ⟨_, _, rfl, h⟩
/-- a copy in new memory -/
def ClonePost (l : List Int) (w : World) (e : Ending) (w' : World) : Prop := ∃ A c, e = .returned (.slice A l.length c) ∧ w'.ownsRow w.heap.size 3 1 (.slice A l.length c) l.length (l.map (Value.int .i64)) ∧ Below w.heap.size w w'
theorem clone_any (l : List Int) (A : Option Addr) (c : Nat) (w : World) (hl : IntSl w A l) (h0 : 0 < l.length) (hn : l.length ≤ 1000) :
    Calls Try.prog 54 #[.slice A l.length c] w (ClonePost l w) := by
  obtain ⟨b, off, rfl, hbl, hat⟩ := hl.atg h0
  refine (Try.slices_Clone_int b off l.length c l w (Nat.le_refl _) (by omega) hat).mono ?_
  rintro e w' ⟨v, rfl, h1, _, hb⟩
  rw [List.take_length] at h1
  obtain ⟨A, c, rfl, _⟩ := row_slice2 h1
  exact ⟨A, c, rfl, h1, hb⟩
theorem row_base {w : World} {B B' : Nat} {e : TypeId} {size n : Nat} {v : Value} {xs : List Value} (h : w.ownsRow B e size v n xs) (hB : B' ≤ B) : w.ownsRow B' e size v n xs :=
  ⟨h.1, by
    rcases h.2 with h | ⟨g, cap, cur, h1, h2, h3⟩
    · exact .inl h
    · exact .inr ⟨g, cap, cur, h1, Nat.le_trans hB h2, h3⟩⟩
theorem rows_ne2 {W : World} {B e1 e2 : Nat} {z1 z2 n1 n2 : Nat} {v1 v2 : Value} {x1 x2 : List Value} (h1 : W.ownsRow B e1 z1 v1 n1 x1) (h2 : W.ownsRow B e2 z2 v2 n2 x2) (hne : e1 ≠ e2) : v2.ownBlock = none ∨ v2.ownBlock ≠ v1.ownBlock := by
  rcases h2.2 with ⟨rfl, _⟩ | ⟨g, cap, cur, rfl, _, hh, _⟩
  · exact .inl rfl
  · refine .inr fun e => ?_
    rcases h1.2 with ⟨rfl, _⟩ | ⟨g', cap', cur', rfl, _, hh', _⟩
    · simp [Value.ownBlock] at e
    · simp only [Value.ownBlock, Option.some.injEq] at e
      subst e
      rw [hh] at hh'
      injection hh' with q
      injection q with _ q
      exact hne q.symm
/-- integers in memory of the call's own -/
abbrev IR (W : World) (B : Nat) (v : Value) (l : List Int) : Prop := W.ownsRow B 3 1 v l.length (l.map (Value.int .i64))
/-- the table in the making: rows, and what they hold -/
structure Mk (w W : World) (b8 : Nat) (D P V : Value) (ds ps : List Int) (cs rs : Array Value) (VL : List Value) (rows : List (List Int)) : Prop where
  own : Own w W [(b8, 25, #[D, P, V]), (w.heap.size + 1, 25, rs), (w.heap.size, 25, cs)]
  lt : w.heap.size + 1 < b8
  d : IR W w.heap.size D ds
  p : IR W w.heap.size P ps
  v : W.ownsRow w.heap.size 22 1 V rows.length VL
  r : ∀ i, i < rows.length → ∃ x, VL[i]? = some x ∧ IR W w.heap.size x (rows.getD i [])
section
variable {w W W' : World} {b8 : Nat} {D P V : Value} {ds ps : List Int} {cs rs : Array Value} {VL : List Value} {rows : List (List Int)}
theorem Mk.to (h : Mk w W b8 D P V ds ps cs rs VL rows) (hb : Below W.heap.size W W') : Mk w W' b8 D P V ds ps cs rs VL rows :=
  ⟨h.own.to hb, h.lt, row_below h.d hb, row_below h.p hb, row_below h.v hb, fun i hi => by
    obtain ⟨x, h1, h2⟩ := h.r i hi
    exact ⟨x, h1, row_below h2 hb⟩⟩
theorem Mk.start_a (X : Own w W [(w.heap.size + 1, 25, rs), (w.heap.size, 25, cs)]) (hD : IR W w.heap.size D ds) (hP : IR W w.heap.size P ps) (hl : w.heap.size + 1 < W.heap.size) :
    Mk w (W.alloc (.cells #[D, P, .slice none 0 0] 25)) W.heap.size D P (.slice none 0 0) ds ps cs rs [] [] :=
  ⟨X.alloc _ _, hl, hD.alloc _, hP.alloc _, World.ownsRow_nil _ _ _ _, fun i hi => by simp at hi⟩
theorem Mk.start_b {u0 u1 u2 : Value} (X : Own w W [(b8, 25, #[u0, u1, u2]), (w.heap.size + 1, 25, rs), (w.heap.size, 25, cs)]) (hD : IR W w.heap.size D ds) (hP : IR W w.heap.size P ps) (hl : w.heap.size + 1 < b8) :
    Mk w (((W.setCell ⟨b8, 0, none⟩ D).setCell ⟨b8, 1, none⟩ P).setCell ⟨b8, 2, none⟩ (.slice none 0 0)) b8 D P (.slice none 0 0) ds ps cs rs [] [] := by
  have B0 : Blk W b8 25 #[u0, u1, u2] := X.2 (b8, _, _) (by simp)
  have B1 := B0.set_ 0 D
  have B2 := B1.set_ 1 P
  have S : ∀ {y : Value} {l : List Int}, IR W w.heap.size y l → IR (((W.setCell ⟨b8, 0, none⟩ D).setCell ⟨b8, 1, none⟩ P).setCell ⟨b8, 2, none⟩ (.slice none 0 0)) w.heap.size y l := fun hy => row_set (row_set (row_set hy B0 (by decide) 0 D) B1 (by decide) 1 P) B2 (by decide) 2 _
  exact ⟨((X.set0 (by omega) (by simp; omega) 0 D).set0 (by omega) (by simp; omega) 1 P).set0 (by omega) (by simp; omega) 2 (.slice none 0 0), hl, S hD, S hP, World.ownsRow_nil _ _ _ _, fun i hi => by simp at hi⟩
/-- one row more: the rows' row has grown, and its slice is stored -/
theorem Mk.app {V' x : Value} {row : List Int} (h : Mk w W b8 D P V ds ps cs rs VL rows) (hx : IR W w.heap.size x row) (hown : W'.ownsRow w.heap.size 22 1 V' (rows.length + 1) (VL ++ [x])) (hg : W.grownBy W' V.ownBlock) :
    Mk w (W'.setCell ⟨b8, 2, none⟩ V') b8 D P V' ds ps cs rs (VL ++ [x]) (rows ++ [row]) := by
  have hl := h.v.1
  have K : ∀ {y : Value} {l : List Int}, IR W w.heap.size y l → IR W' w.heap.size y l := fun hy => hy.kept hg (rows_ne2 h.v hy (by decide))
  have Y := h.own.grown h.v hg (by simp)
  have B8 : Blk W' b8 25 #[D, P, V] := Y.2 (b8, _, _) (by simp)
  have S : ∀ {y : Value} {l : List Int}, IR W' w.heap.size y l → IR (W'.setCell ⟨b8, 2, none⟩ V') w.heap.size y l := fun hy => row_set hy B8 (by decide) 2 V'
  refine ⟨Y.set0 (by have := h.lt; omega) (by have := h.lt; simp; omega) 2 V', h.lt, S (K h.d), S (K h.p), by rw [List.length_append]; exact row_set hown B8 (by decide) 2 V', fun i hi => ?_⟩
  rw [List.length_append, List.length_singleton] at hi
  rcases Nat.lt_or_ge i rows.length with h1 | h1
  · obtain ⟨y, e1, e2⟩ := h.r i h1
    refine ⟨y, by rw [List.getElem?_append_left (by omega)]; exact e1, ?_⟩
    rw [show (rows ++ [row]).getD i [] = rows.getD i [] by simp [List.getD_eq_getElem?_getD, List.getElem?_append_left h1]]
    exact S (K e2)
  · have e : i = rows.length := by omega
    subst e
    refine ⟨x, by rw [List.getElem?_append_right (by omega)]; simp [show rows.length - VL.length = 0 by omega], ?_⟩
    rw [show (rows ++ [row]).getD rows.length [] = row by simp [List.getD_eq_getElem?_getD]]
    exact S (K hx)
/-- a store into the result's box -/
theorem Mk.res (h : Mk w W b8 D P V ds ps cs rs VL rows) (i : Nat) (u : Value) : Mk w (W.setCell ⟨w.heap.size + 1, i, none⟩ u) b8 D P V ds ps cs (rs.setIfInBounds i u) VL rows := by
  have B : Blk W (w.heap.size + 1) 25 rs := h.own.2 (w.heap.size + 1, _, _) (by simp)
  have S : ∀ {y : Value} {l : List Int}, IR W w.heap.size y l → IR (W.setCell ⟨w.heap.size + 1, i, none⟩ u) w.heap.size y l := fun hy => row_set hy B (by decide) i u
  refine ⟨(h.own.swap.set0 (by omega) (by have := h.lt; simp; omega) i u).swap, h.lt, S h.d, S h.p, row_set h.v B (by decide) i u, fun j hj => ?_⟩
  obtain ⟨x, e1, e2⟩ := h.r j hj
  exact ⟨x, e1, S e2⟩
/-- integers in 64 bits -/
def I64L (l : List Int) : Prop := l.length ≤ 9223372036854775807 ∧ ∀ i (h : i < l.length), -9223372036854775808 ≤ l[i] ∧ l[i] ≤ 9223372036854775807
theorem IR.sl {W : World} {B : Nat} {v : Value} {l : List Int} (h : IR W B v l) (hl : I64L l) : ∃ A c, v = .slice A l.length c ∧ IntSl W A l ∧ l.length ≤ c := by
  obtain ⟨A, c, e, hs⟩ := IntSl.of_row h hl.1 hl.2
  obtain ⟨A', c', e', hc⟩ := row_slice2 h
  rw [e] at e'
  injection e' with e1 e2 e3
  exact ⟨A, c, e, hs, by omega⟩
/-- the table is made: it lies in memory -/
theorem Mk.tab (h : Mk w W b8 D P V ds ps cs rs VL rows) (hd : I64L ds) (hp : I64L ps) (hr : ∀ i, i < rows.length → I64L (rows.getD i [])) (hn : rows.length ≤ maxLen) :
    ∃ a : TabA, D = .slice a.A1 ds.length a.c1 ∧ P = .slice a.A2 ps.length a.c2 ∧ V = .slice a.A3 rows.length a.c3 ∧ TabSl W ⟨ds, ps, rows⟩ a := by
  obtain ⟨A1, c1, e1, s1, l1⟩ := h.d.sl hd
  obtain ⟨A2, c2, e2, s2, l2⟩ := h.p.sl hp
  obtain ⟨A3, c3, e3, l3⟩ := row_slice2 h.v
  refine ⟨⟨A1, A2, A3, c1, c2, c3⟩, e1, e2, e3, s1, s2, ⟨hn, fun h0 => ?_⟩, l1, l2, l3⟩
  rcases h.v.2 with ⟨_, e0⟩ | ⟨g, cap, cur, ev, hg, hcell, hnc, _, hsz, htake⟩
  · have : rows.length = 0 := e0
    exact absurd h0 (by show ¬ 0 < rows.length; omega)
  · rw [e3] at ev
    injection ev with ea _ _
    refine ⟨g, 0, ea, (Array.getElem?_eq_some_iff.1 hcell).1, fun i hi => ?_⟩
    obtain ⟨x, hx1, hx2⟩ := h.r i hi
    obtain ⟨R, c, ex, sx, lx⟩ := hx2.sl (hr i hi)
    refine ⟨R, c, ?_, sx, lx⟩
    have hv := h.v
    rw [e3, ea] at hv
    have q := hv.cells (g := g) rfl i x hx1
    have ea : (⟨g, 0, none⟩ : Addr).add i = ⟨g, 0 + i, none⟩ := by unfold Addr.add; split <;> simp_all
    rw [ea, ex] at q
    exact q
end
end Go.Proofs.Ytjnifgheipmanaa
