/- Parts of one proof, joined: What a walk owns: blocks of its own that are known whole, carried from world to world; nothing below them is turned. Rows of the call's own that grow by append, beside blocks of the call's own; slices of integers that read as a list. Triangulated surfaces in memory, and their plain facts: points, turns, triangles, sides. Valid surfaces: their faces are right; plain facts. Spans of integers, said of integers: sums, products, quotients rounded down and up, square roots. Trenches, said of integers: points of a line, the face of a point, its level, distances, covers. -/
import Derived.Test.YtdcdfjinbieblaaGreatDoorPkCostsPipes1
import Derived.Deep.RegionHeld3
namespace Go.Proofs.YtdcdfjinbieblaaGreatDoor
open Go.RowKit

theorem lt_of_cell {w : World} {p : Addr} {v : Value} (h : w.cell? p = some v) : p.block < w.heap.size := by
  rcases Nat.lt_or_ge p.block w.heap.size with hl | hl
  · exact hl
  · exfalso
    have : w.heap[p.block]? = none := Array.getElem?_eq_none hl
    simp [World.cell?, this] at h
theorem below_via {B : Nat} {a w w' : World} (h : Below B a w) (hB : B ≤ w.heap.size) (k : Below w.heap.size w w') : Below B a w' := h.trans (k.mono hB)
theorem below_cells {B : Nat} {W w1 : World} (hb : Below B W w1) : (∀ b o, b < B → w1.cell? ⟨b, o, none⟩ = W.cell? ⟨b, o, none⟩) ∧ (∀ b o, b < B → w1.frozen? ⟨b, o, none⟩ = W.frozen? ⟨b, o, none⟩) :=
  ⟨fun b o h => hb.cell (p := ⟨b, o, none⟩) h, fun b o h => hb.frozen (p := ⟨b, o, none⟩) h⟩
theorem Blk.off {w : World} {g : Nat} {t : TypeId} {cs : Array Value} (h : Blk w g t cs) {b o : Nat} (hp : g ≠ b) (u : Value) : Blk (w.setCell ⟨b, o, none⟩ u) g t cs := h.far (p := ⟨b, o, none⟩) hp u
theorem below_set {B : Nat} {a w : World} (h : Below B a w) {b o : Nat} (hp : B ≤ b) (u : Value) : Below B a (w.setCell ⟨b, o, none⟩ u) := h.setCell (p := ⟨b, o, none⟩) hp u
theorem keeps {w w' : World} (h : Below w.heap.size w w') : ∀ b o v, w.cell? ⟨b, o, none⟩ = some v → w'.cell? ⟨b, o, none⟩ = some v := fun b o _ hc => (h.cell (p := ⟨b, o, none⟩) (lt_of_cell hc)).trans hc

/-- what the call owns in W: each block of the list whole; what was there in w is as it was -/
def Own (w W : World) (L : List (Nat × TypeId × Array Value)) : Prop := Below w.heap.size w W ∧ ∀ x ∈ L, Blk W x.1 x.2.1 x.2.2
theorem Own.start (w : World) : Own w w [] := ⟨Below.refl _ _, fun _ h => by cases h⟩
theorem Own.to {w W W' : World} {L : List (Nat × TypeId × Array Value)} (h : Own w W L) (hb : Below W.heap.size W W') : Own w W' L :=
  ⟨below_via h.1 h.1.size hb, fun x hx => (h.2 x hx).below hb (h.2 x hx).lt⟩
theorem Own.drew {w W : World} {L : List (Nat × TypeId × Array Value)} (h : Own w W L) : Own w W.drew L := ⟨h.1.drew, fun x hx => (h.2 x hx).drew⟩
theorem Own.alloc {w W : World} {L : List (Nat × TypeId × Array Value)} (h : Own w W L) (cs : Array Value) (t : TypeId) : Own w (W.alloc (.cells cs t)) ((W.heap.size, t, cs) :: L) :=
  ⟨h.1.alloc h.1.size _, fun x hx => by
    rcases List.mem_cons.1 hx with rfl | hx
    · exact Blk.new W t cs
    · exact (h.2 x hx).alloc _⟩
/-- a store into the first block of the list -/
theorem Own.set0 {w W : World} {b : Nat} {t : TypeId} {cs : Array Value} {L : List (Nat × TypeId × Array Value)} (h : Own w W ((b, t, cs) :: L)) (hb : w.heap.size ≤ b) (hn : ∀ x ∈ L, x.1 ≠ b) (i : Nat) (u : Value) :
    Own w (W.setCell ⟨b, i, none⟩ u) ((b, t, cs.setIfInBounds i u) :: L) :=
  ⟨below_set h.1 hb u, fun x hx => by
    rcases List.mem_cons.1 hx with rfl | hx
    · exact (h.2 _ (List.mem_cons_self ..)).set_ i u
    · exact (h.2 x (List.mem_cons_of_mem _ hx)).off (hn x hx) u⟩
theorem Own.swap {w W : World} {x y : Nat × TypeId × Array Value} {L} (h : Own w W (x :: y :: L)) : Own w W (y :: x :: L) :=
  ⟨h.1, fun z hz => by
    rcases List.mem_cons.1 hz with rfl | hz
    · exact h.2 _ (by simp)
    · rcases List.mem_cons.1 hz with rfl | hz
      · exact h.2 _ (by simp)
      · exact h.2 _ (by simp [hz])⟩
/-- the rules that the walk uses of one block -/
def Rules (W : World) (x : Nat × TypeId × Array Value) : Prop := (∀ i, W.cell? ⟨x.1, i, none⟩ = x.2.2[i]?) ∧ (∀ i, W.frozen? ⟨x.1, i, none⟩ = false) ∧ x.1 < W.heap.size
theorem Blk.rules {W : World} {b : Nat} {t : TypeId} {cs : Array Value} (h : Blk W b t cs) : (∀ i, W.cell? ⟨b, i, none⟩ = cs[i]?) ∧ (∀ i, W.frozen? ⟨b, i, none⟩ = false) ∧ b < W.heap.size := ⟨h.cell, h.frozen, h.lt⟩
theorem Own.r1 {w W : World} {b0 : Nat} {t0 : TypeId} {c0 : Array Value} {L} (h : Own w W ((b0, t0, c0) :: L)) :
    (∀ i, W.cell? ⟨b0, i, none⟩ = c0[i]?) ∧ (∀ i, W.frozen? ⟨b0, i, none⟩ = false) ∧ b0 < W.heap.size := (h.2 (b0, t0, c0) (by simp)).rules
theorem Own.tail {w W : World} {x : Nat × TypeId × Array Value} {L} (h : Own w W (x :: L)) : Own w W L := ⟨h.1, fun y hy => h.2 y (List.mem_cons_of_mem _ hy)⟩
theorem Own.r2 {w W : World} {b0 b1 : Nat} {t0 t1 : TypeId} {c0 c1 : Array Value} {L} (h : Own w W ((b0, t0, c0) :: (b1, t1, c1) :: L)) :
    ((∀ i, W.cell? ⟨b0, i, none⟩ = c0[i]?) ∧ (∀ i, W.frozen? ⟨b0, i, none⟩ = false) ∧ b0 < W.heap.size) ∧
    ((∀ i, W.cell? ⟨b1, i, none⟩ = c1[i]?) ∧ (∀ i, W.frozen? ⟨b1, i, none⟩ = false) ∧ b1 < W.heap.size) := ⟨h.r1, h.tail.r1⟩
theorem Own.r3 {w W : World} {b0 b1 b2 : Nat} {t0 t1 t2 : TypeId} {c0 c1 c2 : Array Value} {L} (h : Own w W ((b0, t0, c0) :: (b1, t1, c1) :: (b2, t2, c2) :: L)) :
    ((∀ i, W.cell? ⟨b0, i, none⟩ = c0[i]?) ∧ (∀ i, W.frozen? ⟨b0, i, none⟩ = false) ∧ b0 < W.heap.size) ∧
    ((∀ i, W.cell? ⟨b1, i, none⟩ = c1[i]?) ∧ (∀ i, W.frozen? ⟨b1, i, none⟩ = false) ∧ b1 < W.heap.size) ∧
    ((∀ i, W.cell? ⟨b2, i, none⟩ = c2[i]?) ∧ (∀ i, W.frozen? ⟨b2, i, none⟩ = false) ∧ b2 < W.heap.size) := ⟨h.r1, h.tail.r2⟩
theorem Own.r4 {w W : World} {b0 b1 b2 b3 : Nat} {t0 t1 t2 t3 : TypeId} {c0 c1 c2 c3 : Array Value} {L} (h : Own w W ((b0, t0, c0) :: (b1, t1, c1) :: (b2, t2, c2) :: (b3, t3, c3) :: L)) :
    ((∀ i, W.cell? ⟨b0, i, none⟩ = c0[i]?) ∧ (∀ i, W.frozen? ⟨b0, i, none⟩ = false) ∧ b0 < W.heap.size) ∧
    ((∀ i, W.cell? ⟨b1, i, none⟩ = c1[i]?) ∧ (∀ i, W.frozen? ⟨b1, i, none⟩ = false) ∧ b1 < W.heap.size) ∧
    ((∀ i, W.cell? ⟨b2, i, none⟩ = c2[i]?) ∧ (∀ i, W.frozen? ⟨b2, i, none⟩ = false) ∧ b2 < W.heap.size) ∧
    ((∀ i, W.cell? ⟨b3, i, none⟩ = c3[i]?) ∧ (∀ i, W.frozen? ⟨b3, i, none⟩ = false) ∧ b3 < W.heap.size) := ⟨h.r1, h.tail.r3⟩
theorem Own.r5 {w W : World} {b0 b1 b2 b3 b4 : Nat} {t0 t1 t2 t3 t4 : TypeId} {c0 c1 c2 c3 c4 : Array Value} {L} (h : Own w W ((b0, t0, c0) :: (b1, t1, c1) :: (b2, t2, c2) :: (b3, t3, c3) :: (b4, t4, c4) :: L)) :
    ((∀ i, W.cell? ⟨b0, i, none⟩ = c0[i]?) ∧ (∀ i, W.frozen? ⟨b0, i, none⟩ = false) ∧ b0 < W.heap.size) ∧
    ((∀ i, W.cell? ⟨b1, i, none⟩ = c1[i]?) ∧ (∀ i, W.frozen? ⟨b1, i, none⟩ = false) ∧ b1 < W.heap.size) ∧
    ((∀ i, W.cell? ⟨b2, i, none⟩ = c2[i]?) ∧ (∀ i, W.frozen? ⟨b2, i, none⟩ = false) ∧ b2 < W.heap.size) ∧
    ((∀ i, W.cell? ⟨b3, i, none⟩ = c3[i]?) ∧ (∀ i, W.frozen? ⟨b3, i, none⟩ = false) ∧ b3 < W.heap.size) ∧
    ((∀ i, W.cell? ⟨b4, i, none⟩ = c4[i]?) ∧ (∀ i, W.frozen? ⟨b4, i, none⟩ = false) ∧ b4 < W.heap.size) := ⟨h.r1, h.tail.r4⟩
end Go.Proofs.YtdcdfjinbieblaaGreatDoor

namespace Go.Proofs.YtdcdfjinbieblaaGreatDoor
open Go.RowKit

theorem grown_of_below {w w' : World} (h : Below w.heap.size w w') (row : Option Nat) : w.grownBy w' row := ⟨h.os, h.tape, h.output, h.size, fun i hi _ => h.block i hi⟩
theorem row_below {w w' : World} {base : Nat} {e : TypeId} {size n : Nat} {v : Value} {xs : List Value} (h : w.ownsRow base e size v n xs) (hb : Below w.heap.size w w') : w'.ownsRow base e size v n xs :=
  h.kept (grown_of_below hb none) (by cases v.ownBlock <;> simp)
theorem row_drew {w : World} {base : Nat} {e : TypeId} {size n : Nat} {v : Value} {xs : List Value} (h : w.ownsRow base e size v n xs) : w.drew.ownsRow base e size v n xs := h
theorem row_set {w : World} {base g : Nat} {e t : TypeId} {size n : Nat} {v : Value} {xs : List Value} {cs : Array Value} (h : w.ownsRow base e size v n xs) (hB : Blk w g t cs) (hne : e ≠ t) (i : Nat) (u : Value) :
    (w.setCell ⟨g, i, none⟩ u).ownsRow base e size v n xs := by
  have hn := own_blk_ne h hB hne
  refine h.kept (row := some g) ⟨rfl, rfl, rfl, by simp [World.setCell], fun k hk hne => ?_⟩ (.inr hn)
  exact Below.heap_setCell w ⟨g, i, none⟩ u k (fun e => hne (by rw [e]))
theorem Own.grown {w W W' : World} {L : List (Nat × TypeId × Array Value)} {e : TypeId} {size n : Nat} {v : Value} {xs : List Value} (h : Own w W L) (hrow : W.ownsRow w.heap.size e size v n xs) (hg : W.grownBy W' v.ownBlock)
    (hty : ∀ x ∈ L, e ≠ x.2.1) : Own w W' L :=
  ⟨h.1.grown hg h.1.size (fun k hk => (hrow.lt k hk).1), fun x hx => (h.2 x hx).grown hg (fun e' => own_blk_ne hrow (h.2 x hx) (hty x hx) e'.symm)⟩

/-- a slice of integers that reads as a list -/
def IntSl (w : World) (A : Option Addr) (l : List Int) : Prop :=
  (l.length ≤ 9223372036854775807 ∧ ∀ i (h : i < l.length), -9223372036854775808 ≤ l[i] ∧ l[i] ≤ 9223372036854775807) ∧ (0 < l.length → ∃ b off, A = some ⟨b, off, none⟩ ∧ b < w.heap.size ∧ ∀ i (h : i < l.length), w.cell? ⟨b, off + i, none⟩ = some (.int .i64 l[i]))
theorem IntSl.below {w w' : World} {A : Option Addr} {l : List Int} (h : IntSl w A l) (hb : Below w.heap.size w w') : IntSl w' A l :=
  ⟨h.1, fun hl => by obtain ⟨b, off, e, hlt, hat⟩ := h.2 hl; exact ⟨b, off, e, Nat.lt_of_lt_of_le hlt hb.size, fun i hi => (hb.cell (p := ⟨b, off + i, none⟩) hlt).trans (hat i hi)⟩⟩
theorem IntSl.nil (w : World) (A : Option Addr) : IntSl w A [] := ⟨⟨by simp, fun i h => by simp at h⟩, fun h => by simp at h⟩
/-- a row of the call's own that holds integers, read as a slice -/
theorem IntSl.of_row {w : World} {base : Nat} {e : TypeId} {v : Value} {n : Nat} {l : List Int} (h : w.ownsRow base e 1 v n (l.map (Value.int .i64)))
    (hb : l.length ≤ 9223372036854775807) (hr : ∀ i (h : i < l.length), -9223372036854775808 ≤ l[i] ∧ l[i] ≤ 9223372036854775807) : ∃ A c, v = .slice A l.length c ∧ IntSl w A l := by
  have hn : l.length = n := by have := h.1; simpa using this
  rcases h.2 with ⟨rfl, h0⟩ | ⟨g, cap, cur, rfl, hg, hcell, hnc, _, hsz, htake⟩
  · rw [h0] at hn
    have : l = [] := List.eq_nil_of_length_eq_zero hn
    subst this
    exact ⟨none, 0, rfl, IntSl.nil w none⟩
  · subst hn
    refine ⟨some ⟨g, 0, none⟩, cap, rfl, ⟨hb, hr⟩, fun _ => ⟨g, 0, rfl, (Array.getElem?_eq_some_iff.1 hcell).1, fun i hi => ?_⟩⟩
    have hc := h.cells (g := g) rfl i (.int .i64 l[i]) (by simp [hi])
    have e : (⟨g, 0, none⟩ : Addr).add i = ⟨g, 0 + i, none⟩ := by unfold Addr.add; split <;> simp_all
    rw [e] at hc
    exact hc
end Go.Proofs.YtdcdfjinbieblaaGreatDoor

namespace Go.Proofs.YtdcdfjinbieblaaGreatDoor
open Go Go.RowKit

structure Spt where
  x : Int
  y : Int
  z : Int
structure Fce where
  a : Int
  b : Int
  c : Int
  k : Int
structure Msh where
  ss : List Spt
  fs : List Fce
structure MshA where
  A1 : Option Addr
  c1 : Nat
  A2 : Option Addr
  c2 : Nat
abbrev Spt.val (s : Spt) : Value := .agg #[.int .i64 s.x, .int .i64 s.y, .int .i64 s.z]
abbrev Fce.val (f : Fce) : Value := .agg #[.int .i64 f.a, .int .i64 f.b, .int .i64 f.c, .int .i64 f.k]
abbrev Msh.cells (m : Msh) (a : MshA) : Array Value := #[.slice a.A1 m.ss.length a.c1, .slice a.A2 m.fs.length a.c2]
abbrev Msh.val (m : Msh) (a : MshA) : Value := .agg (m.cells a)
def i64 (n : Int) : Prop := -9223372036854775808 ≤ n ∧ n ≤ 9223372036854775807
def SptAt (w : World) (b o : Nat) (s : Spt) : Prop := w.cell? ⟨b, o, none⟩ = some (.int .i64 s.x) ∧ w.cell? ⟨b, o + 1, none⟩ = some (.int .i64 s.y) ∧ w.cell? ⟨b, o + 2, none⟩ = some (.int .i64 s.z)
def FceAt (w : World) (b o : Nat) (f : Fce) : Prop :=
  w.cell? ⟨b, o, none⟩ = some (.int .i64 f.a) ∧ w.cell? ⟨b, o + 1, none⟩ = some (.int .i64 f.b) ∧ w.cell? ⟨b, o + 2, none⟩ = some (.int .i64 f.c) ∧ w.cell? ⟨b, o + 3, none⟩ = some (.int .i64 f.k)
def SptSl (w : World) (A : Option Addr) (l : List Spt) : Prop :=
  (l.length ≤ maxLen ∧ ∀ i (h : i < l.length), i64 l[i].x ∧ i64 l[i].y ∧ i64 l[i].z) ∧ (0 < l.length → ∃ b off, A = some ⟨b, off, none⟩ ∧ b < w.heap.size ∧ ∀ i (h : i < l.length), SptAt w b (off + i * 3) l[i])
def FceSl (w : World) (A : Option Addr) (l : List Fce) : Prop :=
  (l.length ≤ maxLen ∧ ∀ i (h : i < l.length), i64 l[i].a ∧ i64 l[i].b ∧ i64 l[i].c ∧ i64 l[i].k) ∧ (0 < l.length → ∃ b off, A = some ⟨b, off, none⟩ ∧ b < w.heap.size ∧ ∀ i (h : i < l.length), FceAt w b (off + i * 4) l[i])
theorem SptSl.below {w w' : World} {A : Option Addr} {l : List Spt} (h : SptSl w A l) (hb : Below w.heap.size w w') : SptSl w' A l :=
  ⟨h.1, fun hl => by
    obtain ⟨b, off, e, hlt, hat⟩ := h.2 hl
    have k := fun (i : Nat) => hb.cell (p := ⟨b, i, none⟩) hlt
    exact ⟨b, off, e, Nat.lt_of_lt_of_le hlt hb.size, fun i hi => ⟨(k _).trans (hat i hi).1, (k _).trans (hat i hi).2.1, (k _).trans (hat i hi).2.2⟩⟩⟩
theorem FceSl.below {w w' : World} {A : Option Addr} {l : List Fce} (h : FceSl w A l) (hb : Below w.heap.size w w') : FceSl w' A l :=
  ⟨h.1, fun hl => by
    obtain ⟨b, off, e, hlt, hat⟩ := h.2 hl
    have k := fun (i : Nat) => hb.cell (p := ⟨b, i, none⟩) hlt
    exact ⟨b, off, e, Nat.lt_of_lt_of_le hlt hb.size, fun i hi => ⟨(k _).trans (hat i hi).1, (k _).trans (hat i hi).2.1, (k _).trans (hat i hi).2.2.1, (k _).trans (hat i hi).2.2.2⟩⟩⟩
def MshSl (w : World) (m : Msh) (a : MshA) : Prop := SptSl w a.A1 m.ss ∧ FceSl w a.A2 m.fs
theorem MshSl.below {w w' : World} {m : Msh} {a : MshA} (h : MshSl w m a) (hb : Below w.heap.size w w') : MshSl w' m a := ⟨h.1.below hb, h.2.below hb⟩
/-- points -/
structure Pnt where
  x : Int
  y : Int
deriving DecidableEq
abbrev Pnt.val (p : Pnt) : Value := .agg #[.int .i64 p.x, .int .i64 p.y]
def Pnt.in (p : Pnt) : Prop := (-16777216 ≤ p.x ∧ p.x ≤ 16777216) ∧ -16777216 ≤ p.y ∧ p.y ≤ 16777216
def inP (p : Pnt) : Bool := decide (-16777216 ≤ p.x) && decide (p.x ≤ 16777216) && decide (-16777216 ≤ p.y) && decide (p.y ≤ 16777216)
theorem inP_iff {p : Pnt} : inP p = true ↔ p.in := by simp [inP, Pnt.in]; omega
def Spt.pt (s : Spt) : Pnt := ⟨s.x, s.y⟩
def okS (s : Spt) : Bool := inP s.pt && decide (-4194304 ≤ s.z) && decide (s.z ≤ 4194304)
theorem okS_in {s : Spt} (h : okS s = true) : s.pt.in := by
  simp only [okS, Bool.and_eq_true] at h
  exact inP_iff.1 h.1.1
def trn (a b c : Pnt) : Int := (b.x - a.x) * (c.y - a.y) - (b.y - a.y) * (c.x - a.x)
theorem mul_bd {x y : Int} {n : Nat} (hx : -(n : Int) ≤ x ∧ x ≤ n) (hy : -(n : Int) ≤ y ∧ y ≤ n) : -((n * n : Nat) : Int) ≤ x * y ∧ x * y ≤ ((n * n : Nat) : Int) := by
  have h1 : x.natAbs ≤ n := by omega
  have h2 : y.natAbs ≤ n := by omega
  have h3 : (x * y).natAbs ≤ n * n := by rw [Int.natAbs_mul]; exact Nat.mul_le_mul h1 h2
  omega
theorem trn_bd {a b c : Pnt} (ha : a.in) (hb : b.in) (hc : c.in) : (-1125899906842624 ≤ (b.x - a.x) * (c.y - a.y) ∧ (b.x - a.x) * (c.y - a.y) ≤ 1125899906842624) ∧ (-1125899906842624 ≤ (b.y - a.y) * (c.x - a.x) ∧ (b.y - a.y) * (c.x - a.x) ≤ 1125899906842624) := by
  obtain ⟨⟨a1, a2⟩, a3, a4⟩ := ha
  obtain ⟨⟨b1, b2⟩, b3, b4⟩ := hb
  obtain ⟨⟨c1, c2⟩, c3, c4⟩ := hc
  have m1 := mul_bd (x := b.x - a.x) (y := c.y - a.y) (n := 33554432) (by omega) (by omega)
  have m2 := mul_bd (x := b.y - a.y) (y := c.x - a.x) (n := 33554432) (by omega) (by omega)
  exact ⟨m1, m2⟩
structure Tri where
  p : Pnt
  q : Pnt
  r : Pnt
abbrev Tri.cells (t : Tri) : List Value := [.int .i64 t.p.x, .int .i64 t.p.y, .int .i64 t.q.x, .int .i64 t.q.y, .int .i64 t.r.x, .int .i64 t.r.y]
def Tri.in (t : Tri) : Prop := t.p.in ∧ t.q.in ∧ t.r.in
/-- a line has a triangle on its right, or on itself -/
def rgt (a b : Pnt) (u : Tri) : Bool := decide (trn a b u.p ≤ 0) && decide (trn a b u.q ≤ 0) && decide (trn a b u.r ≤ 0)
def sepB (t u : Tri) : Bool := rgt t.p t.q u || rgt t.q t.r u || rgt t.r t.p u
def ovlB (t u : Tri) : Bool := !sepB t u && !sepB u t
def spA (l : List Spt) (i : Int) : Spt := l.getD i.toNat ⟨0, 0, 0⟩
def triA (l : List Spt) (f : Fce) : Tri := ⟨(spA l f.a).pt, (spA l f.b).pt, (spA l f.c).pt⟩
/-- a corner is right -/
def cnB (l : List Spt) (i : Int) : Bool := decide (0 ≤ i) && decide (i < l.length) && okS (spA l i)
def crB (l : List Spt) (f : Fce) : Bool := cnB l f.a && cnB l f.b && cnB l f.c && !decide (f.a = f.b) && !decide (f.b = f.c) && !decide (f.c = f.a) && decide (0 ≤ f.k) && decide (f.k < 16)
/-- the sides of a face -/
def sdA (f : Fce) : Nat → Int × Int
  | 0 => (f.a, f.b)
  | 1 => (f.b, f.c)
  | _ => (f.c, f.a)
def ssB (f g : Fce) : Bool := (List.range 3).any fun i => (List.range 3).any fun k => decide (sdA f i = sdA g k)
def posB (l : List Spt) (f : Fce) : Bool := decide (0 < trn (triA l f).p (triA l f).q (triA l f).r)
/-- the indices of the findings of each kind -/
def fin1 (l : List Spt) (n : Nat) : List Nat := (List.range n).filter fun i => !okS (spA l i)
def fin2 (l : List Spt) (n : Nat) : List Nat := (List.range n).filter fun i => okS (spA l i) && (List.range i).any fun k => okS (spA l k) && decide ((spA l k).pt = (spA l i).pt)
def fcA (g : List Fce) (i : Nat) : Fce := g.getD i ⟨0, 0, 0, 0⟩
def snd (l : List Spt) (g : List Fce) (n : Nat) : List Nat := (List.range n).filter fun i => crB l (fcA g i) && posB l (fcA g i)
def fin3 (l : List Spt) (g : List Fce) (n : Nat) : List Nat := (List.range n).filter fun i => !crB l (fcA g i)
def fin4 (l : List Spt) (g : List Fce) (n : Nat) : List Nat := (List.range n).filter fun i => crB l (fcA g i) && !posB l (fcA g i)
def fin5 (l : List Spt) (g : List Fce) (n : Nat) : List Nat := (List.range n).filter fun i => (crB l (fcA g i) && posB l (fcA g i)) && (snd l g i).any fun k => ssB (fcA g i) (fcA g k)
def fin6 (l : List Spt) (g : List Fce) (n : Nat) : List Nat := (List.range n).filter fun i => (crB l (fcA g i) && posB l (fcA g i)) && (snd l g i).any fun k => ovlB (triA l (fcA g i)) (triA l (fcA g k))
def smB (m : Msh) : Bool := decide (m.ss.length ≤ 2000) && decide (m.fs.length ≤ 4000)
/-- a surface is valid -/
def vM (m : Msh) : Bool := smB m && decide (fin1 m.ss m.ss.length = [] ∧ fin2 m.ss m.ss.length = [] ∧ fin3 m.ss m.fs m.fs.length = [] ∧ fin4 m.ss m.fs m.fs.length = [] ∧ fin5 m.ss m.fs m.fs.length = [] ∧ fin6 m.ss m.fs m.fs.length = [])
theorem filt_s {p : Nat → Bool} (n : Nat) : (List.range (n + 1)).filter p = (List.range n).filter p ++ if p n = true then [n] else [] := by
  rw [List.range_succ, List.filter_append]
  congr 1
  simp [List.filter_cons]
theorem filt_0 {p : Nat → Bool} : (List.range 0).filter p = [] := rfl
end Go.Proofs.YtdcdfjinbieblaaGreatDoor

namespace Go.Proofs.YtdcdfjinbieblaaGreatDoor
open Go Go.RowKit

theorem trn_bd2 {a b c : Pnt} (ha : a.in) (hb : b.in) (hc : c.in) : -2251799813685248 ≤ trn a b c ∧ trn a b c ≤ 2251799813685248 := by
  obtain ⟨h1, h2⟩ := trn_bd ha hb hc
  unfold trn
  omega
/-- the faces of a valid surface are right -/
theorem vM_face {ss : List Spt} {fs : List Fce} (h : vM ⟨ss, fs⟩ = true) : ∀ i, i < fs.length → crB ss (fcA fs i) = true ∧ posB ss (fcA fs i) = true := by
  intro i hi
  simp only [vM, Bool.and_eq_true, decide_eq_true_eq] at h
  obtain ⟨_, _, _, h3, h4, _⟩ := h
  have k3 : ¬ i ∈ fin3 ss fs fs.length := by
    rw [show fin3 ss fs fs.length = [] from h3]; simp
  have k4 : ¬ i ∈ fin4 ss fs fs.length := by
    rw [show fin4 ss fs fs.length = [] from h4]; simp
  have c : crB ss (fcA fs i) = true := by
    cases e : crB ss (fcA fs i) with
    | true => rfl
    | false => exact absurd (by simp [fin3, hi, e]) k3
  refine ⟨c, ?_⟩
  cases e : posB ss (fcA fs i) with
  | true => rfl
  | false => exact absurd (by simp [fin4, hi, e, c]) k4
theorem vM_small {ss : List Spt} {fs : List Fce} (h : vM ⟨ss, fs⟩ = true) : ss.length ≤ 2000 ∧ fs.length ≤ 4000 := by
  simp only [vM, smB, Bool.and_eq_true, decide_eq_true_eq] at h
  exact h.1
end Go.Proofs.YtdcdfjinbieblaaGreatDoor

namespace Go.Proofs.YtdcdfjinbieblaaGreatDoor

structure Sp where
  lo : Int
  hi : Int
abbrev Sp.val (a : Sp) : Value := .agg #[.int .i64 a.lo, .int .i64 a.hi]
def Sp.zero : Sp := ⟨0, 0⟩
def fitB (n : Int) : Bool := decide (-72057594037927936 ≤ n ∧ n ≤ 72057594037927936)
theorem fitB_iff {n : Int} : fitB n = true ↔ -72057594037927936 ≤ n ∧ n ≤ 72057594037927936 := by simp [fitB]
theorem fitB_not {n : Int} : fitB n = false ↔ n < -72057594037927936 ∨ 72057594037927936 < n := by simp [fitB]; omega
def vB (a : Sp) : Bool := decide (a.lo ≤ a.hi) && fitB a.lo && fitB a.hi
theorem vB_iff {a : Sp} : vB a = true ↔ a.lo ≤ a.hi ∧ -72057594037927936 ≤ a.lo ∧ a.hi ≤ 72057594037927936 := by
  simp only [vB, Bool.and_eq_true, decide_eq_true_eq, fitB_iff]; omega
def resE (lo hi : Int) : Int := if fitB lo = true ∧ fitB hi = true then 0 else 5
def resS (lo hi : Int) : Sp := if fitB lo = true ∧ fitB hi = true then ⟨lo, hi⟩ else Sp.zero
/-- a quotient rounded down, for any divisor that is not 0; and up -/
def dn (n d : Int) : Int := if d < 0 then (-n) / (-d) else n / d
def up (n d : Int) : Int := -dn (-n) d
theorem dn_bd {n d : Int} (hd : 0 < d) : dn n d * d ≤ n ∧ n < (dn n d + 1) * d := by
  unfold dn
  rw [if_neg (by omega)]
  have h := Int.mul_ediv_add_emod n d
  have h1 := Int.emod_nonneg n (by omega : d ≠ 0)
  have h2 := Int.emod_lt_of_pos n hd
  have e : (n / d + 1) * d = d * (n / d) + d := by rw [Int.add_mul, Int.mul_comm]; omega
  have e2 : n / d * d = d * (n / d) := Int.mul_comm _ _
  omega
theorem dn_neg (n d : Int) (hd : d < 0) : dn n d = dn (-n) (-d) := by
  unfold dn; rw [if_pos hd, if_neg (by omega)]
theorem dn_uniq {n d q : Int} (hd : 0 < d) (h1 : q * d ≤ n) (h2 : n < (q + 1) * d) : dn n d = q := by
  obtain ⟨k1, k2⟩ := dn_bd (n := n) hd
  have a : dn n d < q + 1 := by
    apply Int.lt_of_mul_lt_mul_right (a := d) _ (by omega)
    omega
  have b : q < dn n d + 1 := by
    apply Int.lt_of_mul_lt_mul_right (a := d) _ (by omega)
    omega
  omega
theorem up_bd {n d : Int} (hd : 0 < d) : n ≤ up n d * d ∧ (up n d - 1) * d < n := by
  obtain ⟨k1, k2⟩ := dn_bd (n := -n) hd
  unfold up
  have e1 : -dn (-n) d * d = -(dn (-n) d * d) := by rw [Int.neg_mul]
  have e2 : (-dn (-n) d - 1) * d = -((dn (-n) d + 1) * d) := by rw [← Int.neg_mul]; congr 1; omega
  omega
/-- the quotient of magnitudes, with a sign -/
theorem dn_mag {m d : Nat} (hd : 0 < d) (s : Int) (hs : s = 1 ∨ s = -1) (t : Int) (ht : t = 1 ∨ t = -1) :
    dn (s * m) (t * d) = if s = t then ((m / d : Nat) : Int) else -(((m / d : Nat) : Int) + if m % d = 0 then 0 else 1) := by
  have h := Nat.div_add_mod m d
  have hlt := Nat.mod_lt m hd
  have hz : (m : Int) = d * (m / d : Nat) + (m % d : Nat) := by
    have : ((d * (m / d) + m % d : Nat) : Int) = m := by rw [h]
    rw [← this]; simp
  generalize (m / d) = q at *
  generalize (m % d) = r at *
  have same : dn (m : Int) (d : Int) = q := by
    apply dn_uniq (by omega)
    · rw [Int.mul_comm]; omega
    · rw [Int.add_mul, Int.mul_comm]; omega
  have opp : dn (-(m : Int)) (d : Int) = -((q : Int) + if r = 0 then 0 else 1) := by
    apply dn_uniq (by omega)
    · by_cases e : r = 0
      · rw [if_pos e, Int.add_zero, Int.neg_mul, Int.mul_comm (q : Int)]; omega
      · rw [if_neg e, Int.neg_mul, Int.add_mul, Int.mul_comm (q : Int)]; omega
    · by_cases e : r = 0
      · rw [if_pos e, Int.add_zero, Int.add_mul, Int.neg_mul, Int.mul_comm (q : Int)]; omega
      · rw [if_neg e, show -((q : Int) + 1) + 1 = -(q : Int) by omega, Int.neg_mul, Int.mul_comm (q : Int)]; omega
  rcases hs with rfl | rfl <;> rcases ht with rfl | rfl
  · simp only [Int.one_mul, if_true]; exact same
  · rw [dn_neg _ _ (by omega), if_neg (by omega)]; simp only [Int.one_mul, Int.neg_mul, Int.neg_neg]; exact opp
  · rw [if_neg (by omega)]; simp only [Int.one_mul, Int.neg_mul]; exact opp
  · rw [dn_neg _ _ (by omega), if_pos rfl]; simp only [Int.one_mul, Int.neg_mul, Int.neg_neg]; exact same
/-- the greatest integer whose square is at most a number -/
def isqN : Nat → Nat
  | 0 => 0
  | n + 1 => if (isqN n + 1) * (isqN n + 1) ≤ n + 1 then isqN n + 1 else isqN n
theorem isqN_bd : ∀ n : Nat, isqN n * isqN n ≤ n ∧ n < (isqN n + 1) * (isqN n + 1)
  | 0 => by simp [isqN]
  | n + 1 => by
    obtain ⟨h1, h2⟩ := isqN_bd n
    unfold isqN
    split
    · rename_i h
      refine ⟨h, ?_⟩
      have : (isqN n + 1 + 1) * (isqN n + 1 + 1) = (isqN n + 1) * (isqN n + 1) + 2 * (isqN n + 1) + 1 := by
        generalize isqN n + 1 = x
        simp only [Nat.add_mul, Nat.mul_add]; omega
      omega
    · exact ⟨by omega, by omega⟩
def isq (n : Int) : Int := isqN n.toNat
theorem isq_bd {n : Int} (h : 0 ≤ n) : 0 ≤ isq n ∧ isq n * isq n ≤ n ∧ n < (isq n + 1) * (isq n + 1) := by
  obtain ⟨h1, h2⟩ := isqN_bd n.toNat
  unfold isq
  refine ⟨by omega, ?_, ?_⟩
  · have : ((isqN n.toNat * isqN n.toNat : Nat) : Int) ≤ n := by omega
    simpa using this
  · have : n < (((isqN n.toNat + 1) * (isqN n.toNat + 1) : Nat) : Int) := by omega
    simpa using this
theorem sq_lt {a b : Int} (ha : 0 ≤ a) (h : a * a < b * b) (hb : 0 ≤ b) : a < b := by
  rcases Int.lt_or_le a b with k | k
  · exact k
  · have := Int.mul_le_mul k k hb ha
    omega
theorem sq_le {a b : Int} (ha : 0 ≤ a) (h : a ≤ b) : a * a ≤ b * b := Int.mul_le_mul h h ha (by omega)
theorem isq_uniq {n r : Int} (h : 0 ≤ n) (h0 : 0 ≤ r) (h1 : r * r ≤ n) (h2 : n < (r + 1) * (r + 1)) : isq n = r := by
  obtain ⟨k0, k1, k2⟩ := isq_bd h
  have a := sq_lt (a := r) (b := isq n + 1) h0 (by omega) (by omega)
  have b := sq_lt (a := isq n) (b := r + 1) k0 (by omega) (by omega)
  omega
theorem isq_mono {n m : Int} (h : 0 ≤ n) (hm : n ≤ m) : isq n ≤ isq m := by
  obtain ⟨k0, k1, k2⟩ := isq_bd h
  obtain ⟨j0, j1, j2⟩ := isq_bd (n := m) (by omega)
  have := sq_lt (a := isq n) (b := isq m + 1) k0 (by omega) (by omega)
  omega
def isqU (n : Int) : Int := if isq n * isq n < n then isq n + 1 else isq n
def negE (a : Sp) : Int := if vB a = true then 0 else 1
def negS (a : Sp) : Sp := if vB a = true then ⟨-a.hi, -a.lo⟩ else Sp.zero
theorem neg_yes {a : Sp} (h : vB a = true) : negE a = 0 ∧ negS a = ⟨-a.hi, -a.lo⟩ := by simp [negE, negS, h]
theorem neg_no {a : Sp} (h : vB a = false) : negE a = 1 ∧ negS a = Sp.zero := by simp [negE, negS, h]
def hullS (a b : Sp) : Sp := ⟨if b.lo < a.lo then b.lo else a.lo, if a.hi < b.hi then b.hi else a.hi⟩
def meetV (a b : Sp) : Sp := ⟨if a.lo < b.lo then b.lo else a.lo, if b.hi < a.hi then b.hi else a.hi⟩
def meetE (a b : Sp) : Int := if (meetV a b).lo ≤ (meetV a b).hi then 0 else 21
def meetS (a b : Sp) : Sp := if (meetV a b).lo ≤ (meetV a b).hi then meetV a b else Sp.zero
end Go.Proofs.YtdcdfjinbieblaaGreatDoor

namespace Go.Proofs.YtdcdfjinbieblaaGreatDoor

/-- the k-th point of a line in 16 parts -/
def ptA (a b : Pnt) (k : Nat) : Pnt := ⟨a.x + (b.x - a.x) * (k : Int) / 16, a.y + (b.y - a.y) * (k : Int) / 16⟩
theorem part_bd {d : Int} {k : Nat} (hk : k ≤ 16) : (0 ≤ d → 0 ≤ d * (k : Int) ∧ d * (k : Int) ≤ d * 16) ∧ (d ≤ 0 → d * 16 ≤ d * (k : Int) ∧ d * (k : Int) ≤ 0) := by
  refine ⟨fun h => ⟨Int.mul_nonneg h (by omega), Int.mul_le_mul_of_nonneg_left (by omega) h⟩, fun h => ?_⟩
  have h1 : 0 ≤ (-d) * (k : Int) := Int.mul_nonneg (by omega) (by omega)
  have h2 : (-d) * (k : Int) ≤ (-d) * 16 := Int.mul_le_mul_of_nonneg_left (by omega) (by omega)
  rw [Int.neg_mul] at h1 h2
  omega
theorem ptA_bd {x y : Int} {k : Nat} (hx : -16777216 ≤ x ∧ x ≤ 16777216) (hy : -16777216 ≤ y ∧ y ≤ 16777216) (hk : k ≤ 16) :
    (-536870912 ≤ (y - x) * (k : Int) ∧ (y - x) * (k : Int) ≤ 536870912) ∧ -16777216 ≤ x + (y - x) * (k : Int) / 16 ∧ x + (y - x) * (k : Int) / 16 ≤ 16777216 := by
  obtain ⟨h1, h2⟩ := part_bd (d := y - x) hk
  generalize (y - x) * (k : Int) = t at *
  omega
theorem ptA_in {a b : Pnt} (ha : a.in) (hb : b.in) {k : Nat} (hk : k ≤ 16) : (ptA a b k).in :=
  ⟨(ptA_bd ha.1 hb.1 hk).2, (ptA_bd ha.2 hb.2 hk).2⟩
/-- a point is on a triangle -/
def onB (t : Tri) (p : Pnt) : Bool := decide (0 ≤ trn t.p t.q p) && decide (0 ≤ trn t.q t.r p) && decide (0 ≤ trn t.r t.p p)
/-- the face of a point -/
def fdA (m : Msh) (p : Pnt) : Option Nat := m.fs.findIdx? fun f => onB (triA m.ss f) p
theorem fdA_some {m : Msh} {p : Pnt} {i : Nat} : fdA m p = some i ↔ ∃ h : i < m.fs.length, onB (triA m.ss m.fs[i]) p = true ∧ ∀ j (hj : j < m.fs.length), j < i → onB (triA m.ss m.fs[j]) p = false := by
  unfold fdA
  rw [List.findIdx?_eq_some_iff_getElem]
  constructor
  · rintro ⟨h, h1, h2⟩
    exact ⟨h, h1, fun j hj hji => by simpa using h2 j hji⟩
  · rintro ⟨h, h1, h2⟩
    exact ⟨h, h1, fun j hji => by simpa using h2 j (by omega) hji⟩
theorem fdA_none {m : Msh} {p : Pnt} : fdA m p = none ↔ ∀ j (hj : j < m.fs.length), onB (triA m.ss m.fs[j]) p = false := by
  unfold fdA
  rw [List.findIdx?_eq_none_iff]
  constructor
  · intro h j hj; exact h _ (List.getElem_mem hj)
  · intro h x hx
    obtain ⟨j, hj, rfl⟩ := List.getElem_of_mem hx
    exact h j hj
/-- the level of a point on a face: a numerator and a denominator -/
def numA (l : List Spt) (f : Fce) (p : Pnt) : Int :=
  (spA l f.a).z * trn p (triA l f).q (triA l f).r + (spA l f.b).z * trn p (triA l f).r (triA l f).p + (spA l f.c).z * trn p (triA l f).p (triA l f).q
def denA (l : List Spt) (f : Fce) : Int := trn (triA l f).p (triA l f).q (triA l f).r
theorem trn_cyc (a b c : Pnt) : trn a b c = trn b c a := by unfold trn; grind
theorem trn_sum (a b c p : Pnt) : trn p b c + trn p c a + trn p a b = trn a b c := by unfold trn; grind
theorem mul_le_c {z w : Int} (hz : -4194304 ≤ z ∧ z ≤ 4194304) (hw : 0 ≤ w) : -(4194304 * w) ≤ z * w ∧ z * w ≤ 4194304 * w := by
  refine ⟨?_, Int.mul_le_mul_of_nonneg_right hz.2 hw⟩
  have := Int.mul_le_mul_of_nonneg_right hz.1 hw
  omega
/-- what is known of a face of a valid surface that a point is on -/
structure OnF (l : List Spt) (f : Fce) (p : Pnt) : Prop where
  a : 0 ≤ f.a ∧ f.a < l.length
  b : 0 ≤ f.b ∧ f.b < l.length
  c : 0 ≤ f.c ∧ f.c < l.length
  za : -4194304 ≤ (spA l f.a).z ∧ (spA l f.a).z ≤ 4194304
  zb : -4194304 ≤ (spA l f.b).z ∧ (spA l f.b).z ≤ 4194304
  zc : -4194304 ≤ (spA l f.c).z ∧ (spA l f.c).z ≤ 4194304
  i : (triA l f).in
  w1 : 0 ≤ trn p (triA l f).q (triA l f).r
  w2 : 0 ≤ trn p (triA l f).r (triA l f).p
  w3 : 0 ≤ trn p (triA l f).p (triA l f).q
  d : 0 < denA l f
structure OkF (l : List Spt) (f : Fce) : Prop where
  a : 0 ≤ f.a ∧ f.a < l.length
  b : 0 ≤ f.b ∧ f.b < l.length
  c : 0 ≤ f.c ∧ f.c < l.length
  za : -4194304 ≤ (spA l f.a).z ∧ (spA l f.a).z ≤ 4194304
  zb : -4194304 ≤ (spA l f.b).z ∧ (spA l f.b).z ≤ 4194304
  zc : -4194304 ≤ (spA l f.c).z ∧ (spA l f.c).z ≤ 4194304
  i : (triA l f).in
  d : 0 < denA l f
theorem cnB_ok {l : List Spt} {i : Int} (h : cnB l i = true) : (0 ≤ i ∧ i < l.length) ∧ (-4194304 ≤ (spA l i).z ∧ (spA l i).z ≤ 4194304) ∧ (spA l i).pt.in := by
  simp only [cnB, Bool.and_eq_true, decide_eq_true_eq] at h
  refine ⟨⟨h.1.1, h.1.2⟩, ?_, okS_in h.2⟩
  have := h.2
  simp only [okS, Bool.and_eq_true, decide_eq_true_eq] at this
  exact ⟨this.1.2, this.2⟩
theorem okF_of {m : Msh} (h : vM m = true) {i : Nat} (hi : i < m.fs.length) : OkF m.ss m.fs[i] := by
  obtain ⟨ss, fs⟩ := m
  obtain ⟨hc, hp⟩ := vM_face h i hi
  have e : fcA fs i = fs[i] := by simp [fcA, hi]
  rw [e] at hc hp
  simp only [crB, Bool.and_eq_true] at hc
  obtain ⟨⟨⟨⟨⟨⟨⟨h1, h2⟩, h3⟩, _⟩, _⟩, _⟩, _⟩, _⟩ := hc
  obtain ⟨a1, a2, a3⟩ := cnB_ok h1
  obtain ⟨b1, b2, b3⟩ := cnB_ok h2
  obtain ⟨c1, c2, c3⟩ := cnB_ok h3
  exact ⟨a1, b1, c1, a2, b2, c2, ⟨a3, b3, c3⟩, by simpa [posB, denA] using hp⟩
theorem onF_of {l : List Spt} {f : Fce} {p : Pnt} (k : OkF l f) (h : onB (triA l f) p = true) : OnF l f p := by
  simp only [onB, Bool.and_eq_true, decide_eq_true_eq] at h
  obtain ⟨⟨h1, h2⟩, h3⟩ := h
  exact ⟨k.a, k.b, k.c, k.za, k.zb, k.zc, k.i, by rw [trn_cyc]; exact h2, by rw [trn_cyc]; exact h3, by rw [trn_cyc]; exact h1, k.d⟩
theorem OnF.num {l : List Spt} {f : Fce} {p : Pnt} (h : OnF l f p) : -(4194304 * denA l f) ≤ numA l f p ∧ numA l f p ≤ 4194304 * denA l f := by
  have e := trn_sum (triA l f).p (triA l f).q (triA l f).r p
  have h1 := mul_le_c h.za h.w1
  have h2 := mul_le_c h.zb h.w2
  have h3 := mul_le_c h.zc h.w3
  unfold numA denA
  rw [← e]
  omega
def lvS (l : List Spt) (f : Fce) (p : Pnt) : Sp := ⟨dn (numA l f p) (denA l f), up (numA l f p) (denA l f)⟩
theorem dn_rng {n d : Int} {z : Int} (hd : 0 < d) (h1 : -(z * d) ≤ n) (h2 : n ≤ z * d) : (-z ≤ dn n d ∧ dn n d ≤ z) ∧ (-z ≤ up n d ∧ up n d ≤ z) ∧ dn n d ≤ up n d := by
  obtain ⟨k1, k2⟩ := dn_bd (n := n) hd
  obtain ⟨j1, j2⟩ := up_bd (n := n) hd
  refine ⟨⟨?_, ?_⟩, ⟨?_, ?_⟩, ?_⟩
  · have : (-z) * d < (dn n d + 1) * d := by rw [Int.neg_mul]; omega
    have := Int.lt_of_mul_lt_mul_right this (by omega)
    omega
  · exact Int.le_of_mul_le_mul_right (by omega : dn n d * d ≤ z * d) hd
  · exact Int.le_of_mul_le_mul_right (by rw [Int.neg_mul]; omega : (-z) * d ≤ up n d * d) hd
  · have : (up n d - 1) * d < z * d := by omega
    have := Int.lt_of_mul_lt_mul_right this (by omega)
    omega
  · exact Int.le_of_mul_le_mul_right (by omega : dn n d * d ≤ up n d * d) hd
theorem OnF.lv {l : List Spt} {f : Fce} {p : Pnt} (h : OnF l f p) : (-4194304 ≤ (lvS l f p).lo ∧ (lvS l f p).lo ≤ 4194304) ∧ (-4194304 ≤ (lvS l f p).hi ∧ (lvS l f p).hi ≤ 4194304) ∧ (lvS l f p).lo ≤ (lvS l f p).hi := by
  obtain ⟨h1, h2⟩ := h.num
  exact dn_rng h.d h1 h2
/-- the level at the k-th point of a line, where there is one -/
def lvA (m : Msh) (p : Pnt) : Option Sp := (fdA m p).map fun i => lvS m.ss (fcA m.fs i) p
theorem lvA_none {m : Msh} {p : Pnt} : lvA m p = none ↔ fdA m p = none := by simp [lvA]
theorem lvA_bd {m : Msh} (hm : vM m = true) {p : Pnt} {s : Sp} (h : lvA m p = some s) : (-4194304 ≤ s.lo ∧ s.lo ≤ 4194304) ∧ (-4194304 ≤ s.hi ∧ s.hi ≤ 4194304) ∧ s.lo ≤ s.hi := by
  unfold lvA at h
  cases e : fdA m p with
  | none => rw [e] at h; cases h
  | some i =>
    rw [e] at h
    obtain ⟨hi, ho, _⟩ := fdA_some.1 e
    have ef : fcA m.fs i = m.fs[i] := by simp [fcA, hi]
    have h' : lvS m.ss (fcA m.fs i) p = s := Option.some.inj h
    rw [← h', ef]
    exact (onF_of (okF_of hm hi) ho).lv
def lvG (m : Msh) (a b : Pnt) (k : Nat) : Sp := (lvA m (ptA a b k)).getD Sp.zero
/-- the first n points of the line are on faces -/
def allL (m : Msh) (a b : Pnt) (n : Nat) : Bool := (List.range n).all fun k => (lvA m (ptA a b k)).isSome
def lvL (m : Msh) (a b : Pnt) (n : Nat) : List Sp := (List.range n).map (lvG m a b)
theorem lvL_succ (m : Msh) (a b : Pnt) (n : Nat) : lvL m a b (n + 1) = lvL m a b n ++ [lvG m a b n] := by simp [lvL, List.range_succ]
theorem allL_succ (m : Msh) (a b : Pnt) (n : Nat) : allL m a b (n + 1) = (allL m a b n && (lvA m (ptA a b n)).isSome) := by simp [allL, List.range_succ, List.all_append]
theorem allL_at {m : Msh} {a b : Pnt} {n k : Nat} (h : allL m a b n = true) (hk : k < n) : lvA m (ptA a b k) = some (lvG m a b k) := by
  have : (lvA m (ptA a b k)).isSome = true := by
    simp only [allL, List.all_eq_true, List.mem_range] at h
    exact h k hk
  unfold lvG
  cases e : lvA m (ptA a b k) with
  | none => rw [e] at this; cases this
  | some s => rfl
theorem lvG_bd {m : Msh} (hm : vM m = true) {a b : Pnt} {n k : Nat} (h : allL m a b n = true) (hk : k < n) : (-4194304 ≤ (lvG m a b k).lo ∧ (lvG m a b k).lo ≤ 4194304) ∧ (-4194304 ≤ (lvG m a b k).hi ∧ (lvG m a b k).hi ≤ 4194304) ∧ (lvG m a b k).lo ≤ (lvG m a b k).hi :=
  lvA_bd hm (allL_at h hk)
/-- the square of a distance -/
def sqD (a b : Pnt) : Int := (a.x - b.x) * (a.x - b.x) + (a.y - b.y) * (a.y - b.y)
theorem sqD_bd {a b : Pnt} (ha : a.in) (hb : b.in) : ((0 ≤ (a.x - b.x) * (a.x - b.x) ∧ (a.x - b.x) * (a.x - b.x) ≤ 1125899906842624) ∧ 0 ≤ (a.y - b.y) * (a.y - b.y) ∧ (a.y - b.y) * (a.y - b.y) ≤ 1125899906842624) ∧ 0 ≤ sqD a b ∧ sqD a b ≤ 2251799813685248 := by
  obtain ⟨⟨a1, a2⟩, a3, a4⟩ := ha
  obtain ⟨⟨b1, b2⟩, b3, b4⟩ := hb
  have m1 := mul_bd (x := a.x - b.x) (y := a.x - b.x) (n := 33554432) (by omega) (by omega)
  have m2 := mul_bd (x := a.y - b.y) (y := a.y - b.y) (n := 33554432) (by omega) (by omega)
  have sq : ∀ z : Int, 0 ≤ z * z := fun z => by
    rcases Int.lt_or_le z 0 with k | k
    · exact Int.le_of_lt (Int.mul_pos_of_neg_of_neg k k)
    · exact Int.mul_nonneg k k
  have p1 := sq (a.x - b.x)
  have p2 := sq (a.y - b.y)
  unfold sqD
  simp only [Nat.reduceMul] at m1 m2
  omega
def dsS (a b : Pnt) : Sp := ⟨isq (sqD a b), isqU (sqD a b)⟩
theorem dsS_bd {a b : Pnt} (ha : a.in) (hb : b.in) : 0 ≤ (dsS a b).lo ∧ (dsS a b).lo ≤ (dsS a b).hi ∧ (dsS a b).hi ≤ 67108864 := by
  obtain ⟨_, h0, h1⟩ := sqD_bd ha hb
  obtain ⟨k0, k1, k2⟩ := isq_bd h0
  have k3 : isq (sqD a b) < 67108863 := sq_lt k0 (by omega) (by omega)
  refine ⟨k0, ?_, ?_⟩ <;> simp only [dsS, isqU] <;> split <;> omega
/-- twice for an inner point -/
def tms (k : Nat) : Int := if k = 0 ∨ k = 16 then 1 else 2
/-- the heights of a pipe at the k-th point, down and up from its upper end -/
def pLo (u d : Int) (k : Nat) : Int := dn ((d - u) * (k : Int)) 16
def pHi (u d : Int) (k : Nat) : Int := up ((d - u) * (k : Int)) 16
theorem pip_bd {u d : Int} (hu : -4194304 ≤ u ∧ u ≤ 4194304) (hd : -4194304 ≤ d ∧ d ≤ 4194304) {k : Nat} (hk : k ≤ 16) : (-134217728 ≤ (d - u) * (k : Int) ∧ (d - u) * (k : Int) ≤ 134217728) ∧ (-8388608 ≤ pLo u d k ∧ pLo u d k ≤ 8388608) ∧ (-8388608 ≤ pHi u d k ∧ pHi u d k ≤ 8388608) ∧ pLo u d k ≤ pHi u d k := by
  obtain ⟨h1, h2⟩ := part_bd (d := d - u) hk
  have h : -134217728 ≤ (d - u) * (k : Int) ∧ (d - u) * (k : Int) ≤ 134217728 := by
    generalize (d - u) * (k : Int) = t at *
    omega
  exact ⟨h, dn_rng (z := 8388608) (by omega) (by omega) (by omega)⟩
def cvL (m : Msh) (a b : Pnt) (u d : Int) (k : Nat) : Int := tms k * max 0 ((lvG m a b k).lo - u - pHi u d k)
def cvH (m : Msh) (a b : Pnt) (u d : Int) (k : Nat) : Int := tms k * max 0 ((lvG m a b k).hi - u - pLo u d k)
def smL (m : Msh) (a b : Pnt) (u d : Int) : Nat → Int
  | 0 => 0
  | n + 1 => smL m a b u d n + cvL m a b u d n
def smH (m : Msh) (a b : Pnt) (u d : Int) : Nat → Int
  | 0 => 0
  | n + 1 => smH m a b u d n + cvH m a b u d n
theorem tms_two (k : Nat) : tms k = 1 ∨ tms k = 2 := by unfold tms; split <;> simp
theorem cv_bd {m : Msh} (hm : vM m = true) {a b : Pnt} {u d : Int} (hu : -4194304 ≤ u ∧ u ≤ 4194304) (hd : -4194304 ≤ d ∧ d ≤ 4194304) {n k : Nat} (h : allL m a b n = true) (hk : k < n) (hk' : k ≤ 16) :
    0 ≤ cvL m a b u d k ∧ cvL m a b u d k ≤ cvH m a b u d k ∧ cvH m a b u d k ≤ 33554432 := by
  obtain ⟨⟨l1, l2⟩, ⟨l3, l4⟩, l5⟩ := lvG_bd hm h hk
  obtain ⟨_, ⟨p1, p2⟩, ⟨p3, p4⟩, p5⟩ := pip_bd hu hd hk'
  unfold cvL cvH
  rcases tms_two k with e | e <;> rw [e] <;> omega
theorem sm_bd {m : Msh} (hm : vM m = true) {a b : Pnt} {u d : Int} (hu : -4194304 ≤ u ∧ u ≤ 4194304) (hd : -4194304 ≤ d ∧ d ≤ 4194304) {n : Nat} (h : allL m a b n = true) : ∀ k : Nat, k ≤ n → k ≤ 17 →
    0 ≤ smL m a b u d k ∧ smL m a b u d k ≤ smH m a b u d k ∧ smH m a b u d k ≤ 33554432 * (k : Int)
  | 0, _, _ => by simp [smL, smH]
  | k + 1, hk, hk' => by
    have i := sm_bd hm hu hd h k (by omega) (by omega)
    have c := cv_bd hm hu hd h (k := k) (by omega) (by omega)
    simp only [smL, smH]
    omega
/-- the volume of a trench -/
def trS (m : Msh) (a b : Pnt) (u d wd : Int) : Sp := ⟨dn (smL m a b u d 17 * ((dsS a b).lo * wd)) 32000, up (smH m a b u d 17 * ((dsS a b).hi * wd)) 32000⟩
def lvlB (n : Int) : Bool := decide (-4194304 ≤ n) && decide (n ≤ 4194304)
def widB (n : Int) : Bool := decide (1 ≤ n) && decide (n ≤ 10000)
def rngB (u d wd : Int) : Bool := lvlB u && lvlB d && widB wd
theorem rngB_iff {u d wd : Int} : rngB u d wd = true ↔ (-4194304 ≤ u ∧ u ≤ 4194304) ∧ (-4194304 ≤ d ∧ d ≤ 4194304) ∧ 1 ≤ wd ∧ wd ≤ 10000 := by
  simp only [rngB, lvlB, widB, Bool.and_eq_true, decide_eq_true_eq]; omega
/-- the error of a surface and a line -/
def gvE (m : Msh) (a b : Pnt) : Int := if (vM m && inP a && inP b) = true then if a = b then 25 else 0 else 1
def trE (m : Msh) (a b : Pnt) (u d wd : Int) : Int := if gvE m a b = 0 then if rngB u d wd = true then if allL m a b 17 = true then 0 else 12 else 2 else gvE m a b
def trR (m : Msh) (a b : Pnt) (u d wd : Int) : Sp := if trE m a b u d wd = 0 then trS m a b u d wd else Sp.zero
theorem trE_ok {m : Msh} {a b : Pnt} {u d wd : Int} (h : trE m a b u d wd = 0) : vM m = true ∧ a.in ∧ b.in ∧ a ≠ b ∧ rngB u d wd = true ∧ allL m a b 17 = true := by
  unfold trE gvE at h
  by_cases h1 : (vM m && inP a && inP b) = true
  · rw [if_pos h1] at h
    by_cases h2 : a = b
    · simp [h2] at h
    · simp only [h2, if_false, if_true] at h
      by_cases h3 : rngB u d wd = true
      · rw [if_pos h3] at h
        by_cases h4 : allL m a b 17 = true
        · simp only [Bool.and_eq_true] at h1
          exact ⟨h1.1.1, inP_iff.1 h1.1.2, inP_iff.1 h1.2, h2, h3, h4⟩
        · simp [h4] at h
      · simp [h3] at h
  · simp [h1] at h
end Go.Proofs.YtdcdfjinbieblaaGreatDoor
