/- What a walk owns: blocks of its own that are known whole, carried from world to world; nothing below them is turned. -/
import Derived.Test.YtnhimgabcljahaaGreatDoorBase
namespace Go.Proofs.YtnhimgabcljahaaGreatDoor
open Go.RowKit

theorem lt_of_cell {w : World} {p : Addr} {v : Value} (h : w.cell? p = some v) : p.block < w.heap.size := by
  rcases Nat.lt_or_ge p.block w.heap.size with hl | hl
  · exact hl
  · exfalso
    have : w.heap[p.block]? = none := Array.getElem?_eq_none hl
    simp [World.cell?, this] at h
theorem below_via {B : Nat} {a w w' : World} (h : Below B a w) (hB : B ≤ w.heap.size) (k : Below w.heap.size w w') : Below B a w' := h.trans (k.mono hB)
theorem below_cells {B : Nat} {W w1 : World} (hb : Below B W w1) : (∀ b o, b < B → w1.cell? ⟨b, o, none⟩ = W.cell? ⟨b, o, none⟩) ∧ (∀ b o, b < B → w1.frozen? ⟨b, o, none⟩ = W.frozen? ⟨b, o, none⟩) :=
  ⟨fun b o h => hb.cell (p := ⟨b, o, none⟩) h, fun b o h => hb.frozen (p := ⟨b, o, none⟩) h⟩
theorem Blk.off {w : World} {g : Nat} {t : TypeId} {cs : Array Value} (h : Blk w g t cs) {b o : Nat} (hp : g ≠ b) (u : Value) : Blk (w.setCell ⟨b, o, none⟩ u) g t cs := h.far (p := ⟨b, o, none⟩) hp u
theorem below_set {B : Nat} {a w : World} (h : Below B a w) {b o : Nat} (hp : B ≤ b) (u : Value) : Below B a (w.setCell ⟨b, o, none⟩ u) := h.setCell (p := ⟨b, o, none⟩) hp u
theorem keeps {w w' : World} (h : Below w.heap.size w w') : ∀ b o v, w.cell? ⟨b, o, none⟩ = some v → w'.cell? ⟨b, o, none⟩ = some v := fun b o _ hc => (h.cell (p := ⟨b, o, none⟩) (lt_of_cell hc)).trans hc

/-- what the call owns in W: each block of the list whole; what was there in w is as it was -/
def Own (w W : World) (L : List (Nat × TypeId × Array Value)) : Prop := Below w.heap.size w W ∧ ∀ x ∈ L, Blk W x.1 x.2.1 x.2.2
theorem Own.start (w : World) : Own w w [] := ⟨Below.refl _ _, fun _ h => by cases h⟩
theorem Own.to {w W W' : World} {L : List (Nat × TypeId × Array Value)} (h : Own w W L) (hb : Below W.heap.size W W') : Own w W' L :=
  ⟨below_via h.1 h.1.size hb, fun x hx => (h.2 x hx).below hb (h.2 x hx).lt⟩
theorem Own.drew {w W : World} {L : List (Nat × TypeId × Array Value)} (h : Own w W L) : Own w W.drew L := ⟨h.1.drew, fun x hx => (h.2 x hx).drew⟩
theorem Own.alloc {w W : World} {L : List (Nat × TypeId × Array Value)} (h : Own w W L) (cs : Array Value) (t : TypeId) : Own w (W.alloc (.cells cs t)) ((W.heap.size, t, cs) :: L) :=
  ⟨h.1.alloc h.1.size _, fun x hx => by
    rcases List.mem_cons.1 hx with rfl | hx
    · exact Blk.new W t cs
    · exact (h.2 x hx).alloc _⟩
/-- a store into the first block of the list -/
theorem Own.set0 {w W : World} {b : Nat} {t : TypeId} {cs : Array Value} {L : List (Nat × TypeId × Array Value)} (h : Own w W ((b, t, cs) :: L)) (hb : w.heap.size ≤ b) (hn : ∀ x ∈ L, x.1 ≠ b) (i : Nat) (u : Value) :
    Own w (W.setCell ⟨b, i, none⟩ u) ((b, t, cs.setIfInBounds i u) :: L) :=
  ⟨below_set h.1 hb u, fun x hx => by
    rcases List.mem_cons.1 hx with rfl | hx
    · exact (h.2 _ (List.mem_cons_self ..)).set_ i u
    · exact (h.2 x (List.mem_cons_of_mem _ hx)).off (hn x hx) u⟩
theorem Own.swap {w W : World} {x y : Nat × TypeId × Array Value} {L} (h : Own w W (x :: y :: L)) : Own w W (y :: x :: L) :=
  ⟨h.1, fun z hz => by
    rcases List.mem_cons.1 hz with rfl | hz
    · exact h.2 _ (by simp)
    · rcases List.mem_cons.1 hz with rfl | hz
      · exact h.2 _ (by simp)
      · exact h.2 _ (by simp [hz])⟩
/-- the rules that the walk uses of one block -/
def Rules (W : World) (x : Nat × TypeId × Array Value) : Prop := (∀ i, W.cell? ⟨x.1, i, none⟩ = x.2.2[i]?) ∧ (∀ i, W.frozen? ⟨x.1, i, none⟩ = false) ∧ x.1 < W.heap.size
theorem Blk.rules {W : World} {b : Nat} {t : TypeId} {cs : Array Value} (h : Blk W b t cs) : (∀ i, W.cell? ⟨b, i, none⟩ = cs[i]?) ∧ (∀ i, W.frozen? ⟨b, i, none⟩ = false) ∧ b < W.heap.size := ⟨h.cell, h.frozen, h.lt⟩
theorem Own.r1 {w W : World} {b0 : Nat} {t0 : TypeId} {c0 : Array Value} {L} (h : Own w W ((b0, t0, c0) :: L)) :
    (∀ i, W.cell? ⟨b0, i, none⟩ = c0[i]?) ∧ (∀ i, W.frozen? ⟨b0, i, none⟩ = false) ∧ b0 < W.heap.size := (h.2 (b0, t0, c0) (by simp)).rules
theorem Own.tail {w W : World} {x : Nat × TypeId × Array Value} {L} (h : Own w W (x :: L)) : Own w W L := ⟨h.1, fun y hy => h.2 y (List.mem_cons_of_mem _ hy)⟩
theorem Own.r2 {w W : World} {b0 b1 : Nat} {t0 t1 : TypeId} {c0 c1 : Array Value} {L} (h : Own w W ((b0, t0, c0) :: (b1, t1, c1) :: L)) :
    ((∀ i, W.cell? ⟨b0, i, none⟩ = c0[i]?) ∧ (∀ i, W.frozen? ⟨b0, i, none⟩ = false) ∧ b0 < W.heap.size) ∧
    ((∀ i, W.cell? ⟨b1, i, none⟩ = c1[i]?) ∧ (∀ i, W.frozen? ⟨b1, i, none⟩ = false) ∧ b1 < W.heap.size) := ⟨h.r1, h.tail.r1⟩
theorem Own.r3 {w W : World} {b0 b1 b2 : Nat} {t0 t1 t2 : TypeId} {c0 c1 c2 : Array Value} {L} (h : Own w W ((b0, t0, c0) :: (b1, t1, c1) :: (b2, t2, c2) :: L)) :
    ((∀ i, W.cell? ⟨b0, i, none⟩ = c0[i]?) ∧ (∀ i, W.frozen? ⟨b0, i, none⟩ = false) ∧ b0 < W.heap.size) ∧
    ((∀ i, W.cell? ⟨b1, i, none⟩ = c1[i]?) ∧ (∀ i, W.frozen? ⟨b1, i, none⟩ = false) ∧ b1 < W.heap.size) ∧
    ((∀ i, W.cell? ⟨b2, i, none⟩ = c2[i]?) ∧ (∀ i, W.frozen? ⟨b2, i, none⟩ = false) ∧ b2 < W.heap.size) := ⟨h.r1, h.tail.r2⟩
theorem Own.r4 {w W : World} {b0 b1 b2 b3 : Nat} {t0 t1 t2 t3 : TypeId} {c0 c1 c2 c3 : Array Value} {L} (h : Own w W ((b0, t0, c0) :: (b1, t1, c1) :: (b2, t2, c2) :: (b3, t3, c3) :: L)) :
    ((∀ i, W.cell? ⟨b0, i, none⟩ = c0[i]?) ∧ (∀ i, W.frozen? ⟨b0, i, none⟩ = false) ∧ b0 < W.heap.size) ∧
    ((∀ i, W.cell? ⟨b1, i, none⟩ = c1[i]?) ∧ (∀ i, W.frozen? ⟨b1, i, none⟩ = false) ∧ b1 < W.heap.size) ∧
    ((∀ i, W.cell? ⟨b2, i, none⟩ = c2[i]?) ∧ (∀ i, W.frozen? ⟨b2, i, none⟩ = false) ∧ b2 < W.heap.size) ∧
    ((∀ i, W.cell? ⟨b3, i, none⟩ = c3[i]?) ∧ (∀ i, W.frozen? ⟨b3, i, none⟩ = false) ∧ b3 < W.heap.size) := ⟨h.r1, h.tail.r3⟩
theorem Own.r5 {w W : World} {b0 b1 b2 b3 b4 : Nat} {t0 t1 t2 t3 t4 : TypeId} {c0 c1 c2 c3 c4 : Array Value} {L} (h : Own w W ((b0, t0, c0) :: (b1, t1, c1) :: (b2, t2, c2) :: (b3, t3, c3) :: (b4, t4, c4) :: L)) :
    ((∀ i, W.cell? ⟨b0, i, none⟩ = c0[i]?) ∧ (∀ i, W.frozen? ⟨b0, i, none⟩ = false) ∧ b0 < W.heap.size) ∧
    ((∀ i, W.cell? ⟨b1, i, none⟩ = c1[i]?) ∧ (∀ i, W.frozen? ⟨b1, i, none⟩ = false) ∧ b1 < W.heap.size) ∧
    ((∀ i, W.cell? ⟨b2, i, none⟩ = c2[i]?) ∧ (∀ i, W.frozen? ⟨b2, i, none⟩ = false) ∧ b2 < W.heap.size) ∧
    ((∀ i, W.cell? ⟨b3, i, none⟩ = c3[i]?) ∧ (∀ i, W.frozen? ⟨b3, i, none⟩ = false) ∧ b3 < W.heap.size) ∧
    ((∀ i, W.cell? ⟨b4, i, none⟩ = c4[i]?) ∧ (∀ i, W.frozen? ⟨b4, i, none⟩ = false) ∧ b4 < W.heap.size) := ⟨h.r1, h.tail.r4⟩
end Go.Proofs.YtnhimgabcljahaaGreatDoor
