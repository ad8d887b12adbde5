/- Parts of one proof, joined: What a walk owns: blocks of its own that are known whole, carried from world to world; nothing below them is turned. Rows of the call's own that grow by append, beside blocks of the call's own; slices of integers that read as a list. Triangulated surfaces in memory, and their plain facts: points, turns, triangles, sides. Rows of spots and of faces of the call's own, and slices.Clone at both; nothing that was there is turned. Rows of a block written cell by cell. Areas of inlets by classes: the plain numbers; the table in the making: rows of integers in blocks of the call's own. -/
import Derived.Test.YtaaadejamjbcbaaGreatDoorPkLanduseWhole1
import Derived.Deep.RegionHeld3
import Derived.Lib.SliceRun
namespace Go.Proofs.YtaaadejamjbcbaaGreatDoor
open Go.RowKit

theorem lt_of_cell {w : World} {p : Addr} {v : Value} (h : w.cell? p = some v) : p.block < w.heap.size := by
  rcases Nat.lt_or_ge p.block w.heap.size with hl | hl
  · exact hl
  · exfalso
    have : w.heap[p.block]? = none := Array.getElem?_eq_none hl
    simp [World.cell?, this] at h
theorem below_via {B : Nat} {a w w' : World} (h : Below B a w) (hB : B ≤ w.heap.size) (k : Below w.heap.size w w') : Below B a w' := h.trans (k.mono hB)
theorem below_cells {B : Nat} {W w1 : World} (hb : Below B W w1) : (∀ b o, b < B → w1.cell? ⟨b, o, none⟩ = W.cell? ⟨b, o, none⟩) ∧ (∀ b o, b < B → w1.frozen? ⟨b, o, none⟩ = W.frozen? ⟨b, o, none⟩) :=
  ⟨fun b o h => hb.cell (p := ⟨b, o, none⟩) h, fun b o h => hb.frozen (p := ⟨b, o, none⟩) h⟩
theorem Blk.off {w : World} {g : Nat} {t : TypeId} {cs : Array Value} (h : Blk w g t cs) {b o : Nat} (hp : g ≠ b) (u : Value) : Blk (w.setCell ⟨b, o, none⟩ u) g t cs := h.far (p := ⟨b, o, none⟩) hp u
theorem below_set {B : Nat} {a w : World} (h : Below B a w) {b o : Nat} (hp : B ≤ b) (u : Value) : Below B a (w.setCell ⟨b, o, none⟩ u) := h.setCell (p := ⟨b, o, none⟩) hp u
theorem keeps {w w' : World} (h : Below w.heap.size w w') : ∀ b o v, w.cell? ⟨b, o, none⟩ = some v → w'.cell? ⟨b, o, none⟩ = some v := fun b o _ hc => (h.cell (p := ⟨b, o, none⟩) (lt_of_cell hc)).trans hc

/-- what the call owns in W: each block of the list whole; what was there in w is as it was -/
def Own (w W : World) (L : List (Nat × TypeId × Array Value)) : Prop := Below w.heap.size w W ∧ ∀ x ∈ L, Blk W x.1 x.2.1 x.2.2
theorem Own.start (w : World) : Own w w [] := ⟨Below.refl _ _, fun _ h => by cases h⟩
theorem Own.to {w W W' : World} {L : List (Nat × TypeId × Array Value)} (h : Own w W L) (hb : Below W.heap.size W W') : Own w W' L :=
  ⟨below_via h.1 h.1.size hb, fun x hx => (h.2 x hx).below hb (h.2 x hx).lt⟩
theorem Own.drew {w W : World} {L : List (Nat × TypeId × Array Value)} (h : Own w W L) : Own w W.drew L := ⟨h.1.drew, fun x hx => (h.2 x hx).drew⟩
theorem Own.alloc {w W : World} {L : List (Nat × TypeId × Array Value)} (h : Own w W L) (cs : Array Value) (t : TypeId) : Own w (W.alloc (.cells cs t)) ((W.heap.size, t, cs) :: L) :=
  ⟨h.1.alloc h.1.size _, fun x hx => by
    rcases List.mem_cons.1 hx with rfl | hx
    · exact Blk.new W t cs
    · exact (h.2 x hx).alloc _⟩
/-- a store into the first block of the list -/
theorem Own.set0 {w W : World} {b : Nat} {t : TypeId} {cs : Array Value} {L : List (Nat × TypeId × Array Value)} (h : Own w W ((b, t, cs) :: L)) (hb : w.heap.size ≤ b) (hn : ∀ x ∈ L, x.1 ≠ b) (i : Nat) (u : Value) :
    Own w (W.setCell ⟨b, i, none⟩ u) ((b, t, cs.setIfInBounds i u) :: L) :=
  ⟨below_set h.1 hb u, fun x hx => by
    rcases List.mem_cons.1 hx with rfl | hx
    · exact (h.2 _ (List.mem_cons_self ..)).set_ i u
    · exact (h.2 x (List.mem_cons_of_mem _ hx)).off (hn x hx) u⟩
theorem Own.swap {w W : World} {x y : Nat × TypeId × Array Value} {L} (h : Own w W (x :: y :: L)) : Own w W (y :: x :: L) :=
  ⟨h.1, fun z hz => by
    rcases List.mem_cons.1 hz with rfl | hz
    · exact h.2 _ (by simp)
    · rcases List.mem_cons.1 hz with rfl | hz
      · exact h.2 _ (by simp)
      · exact h.2 _ (by simp [hz])⟩
/-- the rules that the walk uses of one block -/
def Rules (W : World) (x : Nat × TypeId × Array Value) : Prop := (∀ i, W.cell? ⟨x.1, i, none⟩ = x.2.2[i]?) ∧ (∀ i, W.frozen? ⟨x.1, i, none⟩ = false) ∧ x.1 < W.heap.size
theorem Blk.rules {W : World} {b : Nat} {t : TypeId} {cs : Array Value} (h : Blk W b t cs) : (∀ i, W.cell? ⟨b, i, none⟩ = cs[i]?) ∧ (∀ i, W.frozen? ⟨b, i, none⟩ = false) ∧ b < W.heap.size := ⟨h.cell, h.frozen, h.lt⟩
theorem Own.r1 {w W : World} {b0 : Nat} {t0 : TypeId} {c0 : Array Value} {L} (h : Own w W ((b0, t0, c0) :: L)) :
    (∀ i, W.cell? ⟨b0, i, none⟩ = c0[i]?) ∧ (∀ i, W.frozen? ⟨b0, i, none⟩ = false) ∧ b0 < W.heap.size := (h.2 (b0, t0, c0) (by simp)).rules
theorem Own.tail {w W : World} {x : Nat × TypeId × Array Value} {L} (h : Own w W (x :: L)) : Own w W L := ⟨h.1, fun y hy => h.2 y (List.mem_cons_of_mem _ hy)⟩
theorem Own.r2 {w W : World} {b0 b1 : Nat} {t0 t1 : TypeId} {c0 c1 : Array Value} {L} (h : Own w W ((b0, t0, c0) :: (b1, t1, c1) :: L)) :
    ((∀ i, W.cell? ⟨b0, i, none⟩ = c0[i]?) ∧ (∀ i, W.frozen? ⟨b0, i, none⟩ = false) ∧ b0 < W.heap.size) ∧
    ((∀ i, W.cell? ⟨b1, i, none⟩ = c1[i]?) ∧ (∀ i, W.frozen? ⟨b1, i, none⟩ = false) ∧ b1 < W.heap.size) := ⟨h.r1, h.tail.r1⟩
theorem Own.r3 {w W : World} {b0 b1 b2 : Nat} {t0 t1 t2 : TypeId} {c0 c1 c2 : Array Value} {L} (h : Own w W ((b0, t0, c0) :: (b1, t1, c1) :: (b2, t2, c2) :: L)) :
    ((∀ i, W.cell? ⟨b0, i, none⟩ = c0[i]?) ∧ (∀ i, W.frozen? ⟨b0, i, none⟩ = false) ∧ b0 < W.heap.size) ∧
    ((∀ i, W.cell? ⟨b1, i, none⟩ = c1[i]?) ∧ (∀ i, W.frozen? ⟨b1, i, none⟩ = false) ∧ b1 < W.heap.size) ∧
    ((∀ i, W.cell? ⟨b2, i, none⟩ = c2[i]?) ∧ (∀ i, W.frozen? ⟨b2, i, none⟩ = false) ∧ b2 < W.heap.size) := ⟨h.r1, h.tail.r2⟩
theorem Own.r4 {w W : World} {b0 b1 b2 b3 : Nat} {t0 t1 t2 t3 : TypeId} {c0 c1 c2 c3 : Array Value} {L} (h : Own w W ((b0, t0, c0) :: (b1, t1, c1) :: (b2, t2, c2) :: (b3, t3, c3) :: L)) :
    ((∀ i, W.cell? ⟨b0, i, none⟩ = c0[i]?) ∧ (∀ i, W.frozen? ⟨b0, i, none⟩ = false) ∧ b0 < W.heap.size) ∧
    ((∀ i, W.cell? ⟨b1, i, none⟩ = c1[i]?) ∧ (∀ i, W.frozen? ⟨b1, i, none⟩ = false) ∧ b1 < W.heap.size) ∧
    ((∀ i, W.cell? ⟨b2, i, none⟩ = c2[i]?) ∧ (∀ i, W.frozen? ⟨b2, i, none⟩ = false) ∧ b2 < W.heap.size) ∧
    ((∀ i, W.cell? ⟨b3, i, none⟩ = c3[i]?) ∧ (∀ i, W.frozen? ⟨b3, i, none⟩ = false) ∧ b3 < W.heap.size) := ⟨h.r1, h.tail.r3⟩
theorem Own.r5 {w W : World} {b0 b1 b2 b3 b4 : Nat} {t0 t1 t2 t3 t4 : TypeId} {c0 c1 c2 c3 c4 : Array Value} {L} (h : Own w W ((b0, t0, c0) :: (b1, t1, c1) :: (b2, t2, c2) :: (b3, t3, c3) :: (b4, t4, c4) :: L)) :
    ((∀ i, W.cell? ⟨b0, i, none⟩ = c0[i]?) ∧ (∀ i, W.frozen? ⟨b0, i, none⟩ = false) ∧ b0 < W.heap.size) ∧
    ((∀ i, W.cell? ⟨b1, i, none⟩ = c1[i]?) ∧ (∀ i, W.frozen? ⟨b1, i, none⟩ = false) ∧ b1 < W.heap.size) ∧
    ((∀ i, W.cell? ⟨b2, i, none⟩ = c2[i]?) ∧ (∀ i, W.frozen? ⟨b2, i, none⟩ = false) ∧ b2 < W.heap.size) ∧
    ((∀ i, W.cell? ⟨b3, i, none⟩ = c3[i]?) ∧ (∀ i, W.frozen? ⟨b3, i, none⟩ = false) ∧ b3 < W.heap.size) ∧
    ((∀ i, W.cell? ⟨b4, i, none⟩ = c4[i]?) ∧ (∀ i, W.frozen? ⟨b4, i, none⟩ = false) ∧ b4 < W.heap.size) := ⟨h.r1, h.tail.r4⟩
end Go.Proofs.YtaaadejamjbcbaaGreatDoor

namespace Go.Proofs.YtaaadejamjbcbaaGreatDoor
open Go.RowKit

theorem grown_of_below {w w' : World} (h : Below w.heap.size w w') (row : Option Nat) : w.grownBy w' row := ⟨h.os, h.tape, h.output, h.size, fun i hi _ => h.block i hi⟩
theorem row_below {w w' : World} {base : Nat} {e : TypeId} {size n : Nat} {v : Value} {xs : List Value} (h : w.ownsRow base e size v n xs) (hb : Below w.heap.size w w') : w'.ownsRow base e size v n xs :=
  h.kept (grown_of_below hb none) (by cases v.ownBlock <;> simp)
theorem row_drew {w : World} {base : Nat} {e : TypeId} {size n : Nat} {v : Value} {xs : List Value} (h : w.ownsRow base e size v n xs) : w.drew.ownsRow base e size v n xs := h
theorem row_set {w : World} {base g : Nat} {e t : TypeId} {size n : Nat} {v : Value} {xs : List Value} {cs : Array Value} (h : w.ownsRow base e size v n xs) (hB : Blk w g t cs) (hne : e ≠ t) (i : Nat) (u : Value) :
    (w.setCell ⟨g, i, none⟩ u).ownsRow base e size v n xs := by
  have hn := own_blk_ne h hB hne
  refine h.kept (row := some g) ⟨rfl, rfl, rfl, by simp [World.setCell], fun k hk hne => ?_⟩ (.inr hn)
  exact Below.heap_setCell w ⟨g, i, none⟩ u k (fun e => hne (by rw [e]))
theorem Own.grown {w W W' : World} {L : List (Nat × TypeId × Array Value)} {e : TypeId} {size n : Nat} {v : Value} {xs : List Value} (h : Own w W L) (hrow : W.ownsRow w.heap.size e size v n xs) (hg : W.grownBy W' v.ownBlock)
    (hty : ∀ x ∈ L, e ≠ x.2.1) : Own w W' L :=
  ⟨h.1.grown hg h.1.size (fun k hk => (hrow.lt k hk).1), fun x hx => (h.2 x hx).grown hg (fun e' => own_blk_ne hrow (h.2 x hx) (hty x hx) e'.symm)⟩

/-- a slice of integers that reads as a list -/
def IntSl (w : World) (A : Option Addr) (l : List Int) : Prop :=
  (l.length ≤ 9223372036854775807 ∧ ∀ i (h : i < l.length), -9223372036854775808 ≤ l[i] ∧ l[i] ≤ 9223372036854775807) ∧ (0 < l.length → ∃ b off, A = some ⟨b, off, none⟩ ∧ b < w.heap.size ∧ ∀ i (h : i < l.length), w.cell? ⟨b, off + i, none⟩ = some (.int .i64 l[i]))
theorem IntSl.below {w w' : World} {A : Option Addr} {l : List Int} (h : IntSl w A l) (hb : Below w.heap.size w w') : IntSl w' A l :=
  ⟨h.1, fun hl => by obtain ⟨b, off, e, hlt, hat⟩ := h.2 hl; exact ⟨b, off, e, Nat.lt_of_lt_of_le hlt hb.size, fun i hi => (hb.cell (p := ⟨b, off + i, none⟩) hlt).trans (hat i hi)⟩⟩
theorem IntSl.nil (w : World) (A : Option Addr) : IntSl w A [] := ⟨⟨by simp, fun i h => by simp at h⟩, fun h => by simp at h⟩
/-- a row of the call's own that holds integers, read as a slice -/
theorem IntSl.of_row {w : World} {base : Nat} {e : TypeId} {v : Value} {n : Nat} {l : List Int} (h : w.ownsRow base e 1 v n (l.map (Value.int .i64)))
    (hb : l.length ≤ 9223372036854775807) (hr : ∀ i (h : i < l.length), -9223372036854775808 ≤ l[i] ∧ l[i] ≤ 9223372036854775807) : ∃ A c, v = .slice A l.length c ∧ IntSl w A l := by
  have hn : l.length = n := by have := h.1; simpa using this
  rcases h.2 with ⟨rfl, h0⟩ | ⟨g, cap, cur, rfl, hg, hcell, hnc, _, hsz, htake⟩
  · rw [h0] at hn
    have : l = [] := List.eq_nil_of_length_eq_zero hn
    subst this
    exact ⟨none, 0, rfl, IntSl.nil w none⟩
  · subst hn
    refine ⟨some ⟨g, 0, none⟩, cap, rfl, ⟨hb, hr⟩, fun _ => ⟨g, 0, rfl, (Array.getElem?_eq_some_iff.1 hcell).1, fun i hi => ?_⟩⟩
    have hc := h.cells (g := g) rfl i (.int .i64 l[i]) (by simp [hi])
    have e : (⟨g, 0, none⟩ : Addr).add i = ⟨g, 0 + i, none⟩ := by unfold Addr.add; split <;> simp_all
    rw [e] at hc
    exact hc
end Go.Proofs.YtaaadejamjbcbaaGreatDoor

namespace Go.Proofs.YtaaadejamjbcbaaGreatDoor
open Go Go.RowKit

structure Spt where
  x : Int
  y : Int
  z : Int
structure Fce where
  a : Int
  b : Int
  c : Int
  k : Int
structure Msh where
  ss : List Spt
  fs : List Fce
structure MshA where
  A1 : Option Addr
  c1 : Nat
  A2 : Option Addr
  c2 : Nat
abbrev Spt.val (s : Spt) : Value := .agg #[.int .i64 s.x, .int .i64 s.y, .int .i64 s.z]
abbrev Fce.val (f : Fce) : Value := .agg #[.int .i64 f.a, .int .i64 f.b, .int .i64 f.c, .int .i64 f.k]
abbrev Msh.cells (m : Msh) (a : MshA) : Array Value := #[.slice a.A1 m.ss.length a.c1, .slice a.A2 m.fs.length a.c2]
abbrev Msh.val (m : Msh) (a : MshA) : Value := .agg (m.cells a)
def i64 (n : Int) : Prop := -9223372036854775808 ≤ n ∧ n ≤ 9223372036854775807
def SptAt (w : World) (b o : Nat) (s : Spt) : Prop := w.cell? ⟨b, o, none⟩ = some (.int .i64 s.x) ∧ w.cell? ⟨b, o + 1, none⟩ = some (.int .i64 s.y) ∧ w.cell? ⟨b, o + 2, none⟩ = some (.int .i64 s.z)
def FceAt (w : World) (b o : Nat) (f : Fce) : Prop :=
  w.cell? ⟨b, o, none⟩ = some (.int .i64 f.a) ∧ w.cell? ⟨b, o + 1, none⟩ = some (.int .i64 f.b) ∧ w.cell? ⟨b, o + 2, none⟩ = some (.int .i64 f.c) ∧ w.cell? ⟨b, o + 3, none⟩ = some (.int .i64 f.k)
def SptSl (w : World) (A : Option Addr) (l : List Spt) : Prop :=
  (l.length ≤ maxLen ∧ ∀ i (h : i < l.length), i64 l[i].x ∧ i64 l[i].y ∧ i64 l[i].z) ∧ (0 < l.length → ∃ b off, A = some ⟨b, off, none⟩ ∧ b < w.heap.size ∧ ∀ i (h : i < l.length), SptAt w b (off + i * 3) l[i])
def FceSl (w : World) (A : Option Addr) (l : List Fce) : Prop :=
  (l.length ≤ maxLen ∧ ∀ i (h : i < l.length), i64 l[i].a ∧ i64 l[i].b ∧ i64 l[i].c ∧ i64 l[i].k) ∧ (0 < l.length → ∃ b off, A = some ⟨b, off, none⟩ ∧ b < w.heap.size ∧ ∀ i (h : i < l.length), FceAt w b (off + i * 4) l[i])
theorem SptSl.below {w w' : World} {A : Option Addr} {l : List Spt} (h : SptSl w A l) (hb : Below w.heap.size w w') : SptSl w' A l :=
  ⟨h.1, fun hl => by
    obtain ⟨b, off, e, hlt, hat⟩ := h.2 hl
    have k := fun (i : Nat) => hb.cell (p := ⟨b, i, none⟩) hlt
    exact ⟨b, off, e, Nat.lt_of_lt_of_le hlt hb.size, fun i hi => ⟨(k _).trans (hat i hi).1, (k _).trans (hat i hi).2.1, (k _).trans (hat i hi).2.2⟩⟩⟩
theorem FceSl.below {w w' : World} {A : Option Addr} {l : List Fce} (h : FceSl w A l) (hb : Below w.heap.size w w') : FceSl w' A l :=
  ⟨h.1, fun hl => by
    obtain ⟨b, off, e, hlt, hat⟩ := h.2 hl
    have k := fun (i : Nat) => hb.cell (p := ⟨b, i, none⟩) hlt
    exact ⟨b, off, e, Nat.lt_of_lt_of_le hlt hb.size, fun i hi => ⟨(k _).trans (hat i hi).1, (k _).trans (hat i hi).2.1, (k _).trans (hat i hi).2.2.1, (k _).trans (hat i hi).2.2.2⟩⟩⟩
def MshSl (w : World) (m : Msh) (a : MshA) : Prop := SptSl w a.A1 m.ss ∧ FceSl w a.A2 m.fs
theorem MshSl.below {w w' : World} {m : Msh} {a : MshA} (h : MshSl w m a) (hb : Below w.heap.size w w') : MshSl w' m a := ⟨h.1.below hb, h.2.below hb⟩
/-- points -/
structure Pnt where
  x : Int
  y : Int
deriving DecidableEq
abbrev Pnt.val (p : Pnt) : Value := .agg #[.int .i64 p.x, .int .i64 p.y]
def Pnt.in (p : Pnt) : Prop := (-16777216 ≤ p.x ∧ p.x ≤ 16777216) ∧ -16777216 ≤ p.y ∧ p.y ≤ 16777216
def inP (p : Pnt) : Bool := decide (-16777216 ≤ p.x) && decide (p.x ≤ 16777216) && decide (-16777216 ≤ p.y) && decide (p.y ≤ 16777216)
theorem inP_iff {p : Pnt} : inP p = true ↔ p.in := by simp [inP, Pnt.in]; omega
def Spt.pt (s : Spt) : Pnt := ⟨s.x, s.y⟩
def okS (s : Spt) : Bool := inP s.pt && decide (-4194304 ≤ s.z) && decide (s.z ≤ 4194304)
theorem okS_in {s : Spt} (h : okS s = true) : s.pt.in := by
  simp only [okS, Bool.and_eq_true] at h
  exact inP_iff.1 h.1.1
def trn (a b c : Pnt) : Int := (b.x - a.x) * (c.y - a.y) - (b.y - a.y) * (c.x - a.x)
theorem mul_bd {x y : Int} {n : Nat} (hx : -(n : Int) ≤ x ∧ x ≤ n) (hy : -(n : Int) ≤ y ∧ y ≤ n) : -((n * n : Nat) : Int) ≤ x * y ∧ x * y ≤ ((n * n : Nat) : Int) := by
  have h1 : x.natAbs ≤ n := by omega
  have h2 : y.natAbs ≤ n := by omega
  have h3 : (x * y).natAbs ≤ n * n := by rw [Int.natAbs_mul]; exact Nat.mul_le_mul h1 h2
  omega
theorem trn_bd {a b c : Pnt} (ha : a.in) (hb : b.in) (hc : c.in) : (-1125899906842624 ≤ (b.x - a.x) * (c.y - a.y) ∧ (b.x - a.x) * (c.y - a.y) ≤ 1125899906842624) ∧ (-1125899906842624 ≤ (b.y - a.y) * (c.x - a.x) ∧ (b.y - a.y) * (c.x - a.x) ≤ 1125899906842624) := by
  obtain ⟨⟨a1, a2⟩, a3, a4⟩ := ha
  obtain ⟨⟨b1, b2⟩, b3, b4⟩ := hb
  obtain ⟨⟨c1, c2⟩, c3, c4⟩ := hc
  have m1 := mul_bd (x := b.x - a.x) (y := c.y - a.y) (n := 33554432) (by omega) (by omega)
  have m2 := mul_bd (x := b.y - a.y) (y := c.x - a.x) (n := 33554432) (by omega) (by omega)
  exact ⟨m1, m2⟩
structure Tri where
  p : Pnt
  q : Pnt
  r : Pnt
abbrev Tri.cells (t : Tri) : List Value := [.int .i64 t.p.x, .int .i64 t.p.y, .int .i64 t.q.x, .int .i64 t.q.y, .int .i64 t.r.x, .int .i64 t.r.y]
def Tri.in (t : Tri) : Prop := t.p.in ∧ t.q.in ∧ t.r.in
/-- a line has a triangle on its right, or on itself -/
def rgt (a b : Pnt) (u : Tri) : Bool := decide (trn a b u.p ≤ 0) && decide (trn a b u.q ≤ 0) && decide (trn a b u.r ≤ 0)
def sepB (t u : Tri) : Bool := rgt t.p t.q u || rgt t.q t.r u || rgt t.r t.p u
def ovlB (t u : Tri) : Bool := !sepB t u && !sepB u t
def spA (l : List Spt) (i : Int) : Spt := l.getD i.toNat ⟨0, 0, 0⟩
def triA (l : List Spt) (f : Fce) : Tri := ⟨(spA l f.a).pt, (spA l f.b).pt, (spA l f.c).pt⟩
/-- a corner is right -/
def cnB (l : List Spt) (i : Int) : Bool := decide (0 ≤ i) && decide (i < l.length) && okS (spA l i)
def crB (l : List Spt) (f : Fce) : Bool := cnB l f.a && cnB l f.b && cnB l f.c && !decide (f.a = f.b) && !decide (f.b = f.c) && !decide (f.c = f.a) && decide (0 ≤ f.k) && decide (f.k < 16)
/-- the sides of a face -/
def sdA (f : Fce) : Nat → Int × Int
  | 0 => (f.a, f.b)
  | 1 => (f.b, f.c)
  | _ => (f.c, f.a)
def ssB (f g : Fce) : Bool := (List.range 3).any fun i => (List.range 3).any fun k => decide (sdA f i = sdA g k)
def posB (l : List Spt) (f : Fce) : Bool := decide (0 < trn (triA l f).p (triA l f).q (triA l f).r)
/-- the indices of the findings of each kind -/
def fin1 (l : List Spt) (n : Nat) : List Nat := (List.range n).filter fun i => !okS (spA l i)
def fin2 (l : List Spt) (n : Nat) : List Nat := (List.range n).filter fun i => okS (spA l i) && (List.range i).any fun k => okS (spA l k) && decide ((spA l k).pt = (spA l i).pt)
def fcA (g : List Fce) (i : Nat) : Fce := g.getD i ⟨0, 0, 0, 0⟩
def snd (l : List Spt) (g : List Fce) (n : Nat) : List Nat := (List.range n).filter fun i => crB l (fcA g i) && posB l (fcA g i)
def fin3 (l : List Spt) (g : List Fce) (n : Nat) : List Nat := (List.range n).filter fun i => !crB l (fcA g i)
def fin4 (l : List Spt) (g : List Fce) (n : Nat) : List Nat := (List.range n).filter fun i => crB l (fcA g i) && !posB l (fcA g i)
def fin5 (l : List Spt) (g : List Fce) (n : Nat) : List Nat := (List.range n).filter fun i => (crB l (fcA g i) && posB l (fcA g i)) && (snd l g i).any fun k => ssB (fcA g i) (fcA g k)
def fin6 (l : List Spt) (g : List Fce) (n : Nat) : List Nat := (List.range n).filter fun i => (crB l (fcA g i) && posB l (fcA g i)) && (snd l g i).any fun k => ovlB (triA l (fcA g i)) (triA l (fcA g k))
def smB (m : Msh) : Bool := decide (m.ss.length ≤ 2000) && decide (m.fs.length ≤ 4000)
/-- a surface is valid -/
def vM (m : Msh) : Bool := smB m && decide (fin1 m.ss m.ss.length = [] ∧ fin2 m.ss m.ss.length = [] ∧ fin3 m.ss m.fs m.fs.length = [] ∧ fin4 m.ss m.fs m.fs.length = [] ∧ fin5 m.ss m.fs m.fs.length = [] ∧ fin6 m.ss m.fs m.fs.length = [])
theorem filt_s {p : Nat → Bool} (n : Nat) : (List.range (n + 1)).filter p = (List.range n).filter p ++ if p n = true then [n] else [] := by
  rw [List.range_succ, List.filter_append]
  congr 1
  simp [List.filter_cons]
theorem filt_0 {p : Nat → Bool} : (List.range 0).filter p = [] := rfl
end Go.Proofs.YtaaadejamjbcbaaGreatDoor

namespace Go.Proofs.YtaaadejamjbcbaaGreatDoor
open Go Go.RowKit

theorem row_sliceN {w : World} {base : Nat} {e : TypeId} {size n : Nat} {v : Value} {xs : List Value} (h : w.ownsRow base e size v n xs) : ∃ A c, v = .slice A n c ∧ n ≤ c := by
  rcases h.2 with ⟨rfl, rfl⟩ | ⟨g, cp, cur, rfl, _, _, h, _⟩
  · exact ⟨_, _, rfl, Nat.le_refl _⟩
  · exact ⟨_, _, rfl, h⟩
abbrev Spt.cs (s : Spt) : List Value := [.int .i64 s.x, .int .i64 s.y, .int .i64 s.z]
def flatSpt (l : List Spt) : List Value := l.flatMap Spt.cs
theorem flatSpt_append (a b : List Spt) : flatSpt (a ++ b) = flatSpt a ++ flatSpt b := by simp [flatSpt]
theorem flatSpt_len (l : List Spt) : (flatSpt l).length = l.length * 3 := by
  induction l with
  | nil => rfl
  | cons c l ih => simp only [flatSpt, List.flatMap_cons, List.length_append, List.length_cons] at ih ⊢; rw [ih]; simp; omega
theorem flatSpt_at : ∀ (l : List Spt) (i : Nat) (h : i < l.length), (flatSpt l)[i * 3]? = some (.int .i64 l[i].x) ∧ (flatSpt l)[i * 3 + 1]? = some (.int .i64 l[i].y) ∧ (flatSpt l)[i * 3 + 2]? = some (.int .i64 l[i].z)
  | [], i, h => absurd h (by simp)
  | c :: l, 0, _ => ⟨rfl, rfl, rfl⟩
  | c :: l, i + 1, h => by
    have ih := flatSpt_at l i (by simpa using h)
    have e : flatSpt (c :: l) = c.cs ++ flatSpt l := rfl
    have k : ∀ j, (flatSpt (c :: l))[(i + 1) * 3 + j]? = (flatSpt l)[i * 3 + j]? := fun j => by
      rw [e, List.getElem?_append_right (by simp; omega)]
      congr 1
      simp; omega
    exact ⟨(k 0).trans ih.1, (k 1).trans ih.2.1, (k 2).trans ih.2.2⟩
theorem flatSpt_cell {l : List Spt} {j : Nat} {u : Value} (h : (flatSpt l)[j]? = some u) : ∃ (i : Nat) (hi : i < l.length) (m : Nat), m < 3 ∧ j = i * 3 + m ∧ l[i].cs[m]? = some u := by
  induction l generalizing j with
  | nil => simp [flatSpt] at h
  | cons c l ih =>
    have e : flatSpt (c :: l) = c.cs ++ flatSpt l := rfl
    rw [e] at h
    by_cases hj : j < 3
    · rw [List.getElem?_append_left (by simpa using hj)] at h
      exact ⟨0, by simp, j, hj, by simp, h⟩
    · rw [List.getElem?_append_right (by simp; omega)] at h
      obtain ⟨i, hi, m, hm, hjm, hu⟩ := ih h
      refine ⟨i + 1, by simpa using hi, m, hm, ?_, by simpa using hu⟩
      simp at hjm; omega
theorem flatSpt_one (l : List Spt) : ∀ u ∈ flatSpt l, u.oneCell' = true := by
  intro u hu
  obtain ⟨s, _, hs⟩ := List.mem_flatMap.1 hu
  simp only [Spt.cs, List.mem_cons, List.not_mem_nil, or_false] at hs
  rcases hs with rfl | rfl | rfl <;> rfl
theorem SptSl.of_row {w : World} {base : Nat} {e : TypeId} {v : Value} {n : Nat} {l : List Spt} (h : w.ownsRow base e 3 v n (flatSpt l)) (hb : l.length ≤ maxLen) (hr : ∀ i (h : i < l.length), i64 l[i].x ∧ i64 l[i].y ∧ i64 l[i].z) : ∃ A c, v = .slice A l.length c ∧ SptSl w A l ∧ l.length ≤ c := by
  have hn : l.length = n := by have := h.1; rw [flatSpt_len] at this; omega
  rcases h.2 with ⟨rfl, h0⟩ | ⟨g, cap, cur, rfl, hg, hcell, hnc, _, hsz, htake⟩
  · rw [h0] at hn
    have : l = [] := List.eq_nil_of_length_eq_zero hn
    subst this
    exact ⟨none, 0, rfl, ⟨⟨hb, hr⟩, fun h => by simp at h⟩, by simp⟩
  · subst hn
    refine ⟨some ⟨g, 0, none⟩, cap, rfl, ⟨⟨hb, hr⟩, fun _ => ⟨g, 0, rfl, (Array.getElem?_eq_some_iff.1 hcell).1, fun i hi => ?_⟩⟩, hnc⟩
    have k := fun j u (hu : (flatSpt l)[j]? = some u) => (show w.cell? ⟨g, 0 + j, none⟩ = some u by
      have hc := h.cells (g := g) rfl j u hu
      have e : (⟨g, 0, none⟩ : Addr).add j = ⟨g, 0 + j, none⟩ := by unfold Addr.add; split <;> simp_all
      rw [e] at hc
      exact hc)
    obtain ⟨a0, a1, a2⟩ := flatSpt_at l i hi
    exact ⟨k _ _ a0, k _ _ a1, k _ _ a2⟩
theorem SptSl.cells {w : World} {b off : Nat} {l : List Spt} (hat : ∀ i (h : i < l.length), SptAt w b (off + i * 3) l[i]) : ∀ j u, (flatSpt l)[j]? = some u → w.cell? ⟨b, off + j, none⟩ = some u := by
  intro j u hj
  obtain ⟨i, hi, m, hm, rfl, hu⟩ := flatSpt_cell hj
  have h := hat i hi
  rw [show off + (i * 3 + m) = off + i * 3 + m by omega]
  obtain rfl | rfl | rfl : m = 0 ∨ m = 1 ∨ m = 2 := by omega
  · exact h.1.trans hu
  · exact h.2.1.trans hu
  · exact h.2.2.trans hu
theorem spt_infoN : (Tryz.prog.info? 62).map (fun i => (i.zero, i.size, i.bytes)) = some (some (.agg #[.int .i64 0, .int .i64 0, .int .i64 0]), 3, 24) := by kernel_rfl
/-- a copy in memory of the call's own -/
def CloneSpt (l : List Spt) (w : World) (e : Ending) (w' : World) : Prop := ∃ A c, e = .returned (.slice A l.length c) ∧ w'.ownsRow w.heap.size 62 3 (.slice A l.length c) l.length (flatSpt l) ∧ l.length ≤ c ∧ Below w.heap.size w w'
set_option maxHeartbeats 1000000 in
theorem cloneSpt_any (l : List Spt) (A : Option Addr) (c : Nat) (w : World) (hl : SptSl w A l) (hn : l.length ≤ 4000) :
    Calls Tryz.prog 24 #[.slice A l.length c] w (CloneSpt l w) := by
  obtain ⟨i0, hi, hz0, hz1, hz2⟩ := info_parts spt_infoN
  cases A with
  | none =>
    have h0 : l = [] := by
      rcases Nat.eq_zero_or_pos l.length with h | h
      · exact List.eq_nil_of_length_eq_zero h
      · obtain ⟨b, off, e, _⟩ := hl.2 h; cases e
    subst h0
    have q0 : ∀ (w : World) (a : Option Addr) (n c n' c' : Nat), (binOp .eql 22 (.slice a n c) (.slice none n' c')).run Tryz.prog w = .ok (.bool a.isNone) w := fun w a n c n' c' => Lib.run_eql_slice_nil w _ _ a n c n' c' Tryz.underlying22
    go_enter Tryz.func24, Tryz.ntmps24
    go_wp2
    go_ret
    exact ⟨_, _, rfl, World.ownsRow_nil _ _ _ _, Nat.le_refl _, Below.refl _ _⟩
  | some ad =>
    have HN : Hid (∀ j u, (flatSpt l)[j]? = some u → (w.alloc (.cells #[] 62)).cell? (ad.add j) = some u) := hide (fun j u hj => by
      rcases Nat.eq_zero_or_pos l.length with h | h
      · have : l = [] := List.eq_nil_of_length_eq_zero h
        subst this
        simp [flatSpt] at hj
      · obtain ⟨b, off, e, hbl, hat⟩ := hl.2 h
        have e' : ad = ⟨b, off, none⟩ := by simpa using e
        subst e'
        have e : (⟨b, off, none⟩ : Addr).add j = ⟨b, off + j, none⟩ := by unfold Addr.add; split <;> simp_all
        rw [e]
        exact (((Below.refl _ w).alloc (Nat.le_refl _) (.cells #[] 62)).cell (p := ⟨b, off + j, none⟩) hbl).trans (SptSl.cells hat j u hj))
    have fl : (flatSpt l).length = l.length * 3 := flatSpt_len l
    have f1 : 0 + l.length ≤ maxLen := by unfold maxLen; omega
    have f2 : (0 + l.length) * 24 ≤ 140737488355328 := by omega
    have f4 := flatSpt_one l
    have f5 : w.heap.size ≤ (w.alloc (.cells #[] 62)).heap.size := by simp
    have q0 : ∀ (w : World) (a : Option Addr) (n c n' c' : Nat), (binOp .eql 22 (.slice a n c) (.slice none n' c')).run Tryz.prog w = .ok (.bool a.isNone) w := fun w a n c n' c' => Lib.run_eql_slice_nil w _ _ a n c n' c' Tryz.underlying22
    clear hl
    go_enter Tryz.func24, Tryz.ntmps24
    go_wp2_with (at_builtin; refine wpList_append_own _ rfl _ _ 22 rfl w.heap.size 62 i0 (.agg #[.int .i64 0, .int .i64 0, .int .i64 0]) 3 24 Tryz.underlying22 hi hz0 hz1 hz2 rfl (by decide) _ _ _ rfl (World.ownsRow_made w #[] 0 (Nat.le_refl _) (Nat.zero_le _) rfl) ad l.length c (flatSpt l) rfl fl HN.out f4 f1 f2 f5 ?_; intro v' w1 hown hgrow hnil)
    have HB : Below w.heap.size w w1 := ((Below.refl _ w).alloc (Nat.le_refl _) _).grown hgrow (by simp) (fun k hk => Nat.le_of_eq (Option.some.inj (show some w.heap.size = some k from hk)))
    rw [Nat.zero_add] at hown
    have HO := hide hown
    clear hown hgrow hnil f4 HN
    go_wp2
    go_ret
    obtain ⟨A, c, e, hc⟩ := row_sliceN HO.out
    subst e
    exact ⟨A, c, rfl, by simpa using HO.out, hc, HB⟩
abbrev Fce.cs (s : Fce) : List Value := [.int .i64 s.a, .int .i64 s.b, .int .i64 s.c, .int .i64 s.k]
def flatFce (l : List Fce) : List Value := l.flatMap Fce.cs
theorem flatFce_append (a b : List Fce) : flatFce (a ++ b) = flatFce a ++ flatFce b := by simp [flatFce]
theorem flatFce_len (l : List Fce) : (flatFce l).length = l.length * 4 := by
  induction l with
  | nil => rfl
  | cons c l ih => simp only [flatFce, List.flatMap_cons, List.length_append, List.length_cons] at ih ⊢; rw [ih]; simp; omega
theorem flatFce_at : ∀ (l : List Fce) (i : Nat) (h : i < l.length), (flatFce l)[i * 4]? = some (.int .i64 l[i].a) ∧ (flatFce l)[i * 4 + 1]? = some (.int .i64 l[i].b) ∧ (flatFce l)[i * 4 + 2]? = some (.int .i64 l[i].c) ∧ (flatFce l)[i * 4 + 3]? = some (.int .i64 l[i].k)
  | [], i, h => absurd h (by simp)
  | c :: l, 0, _ => ⟨rfl, rfl, rfl, rfl⟩
  | c :: l, i + 1, h => by
    have ih := flatFce_at l i (by simpa using h)
    have e : flatFce (c :: l) = c.cs ++ flatFce l := rfl
    have k : ∀ j, (flatFce (c :: l))[(i + 1) * 4 + j]? = (flatFce l)[i * 4 + j]? := fun j => by
      rw [e, List.getElem?_append_right (by simp; omega)]
      congr 1
      simp; omega
    exact ⟨(k 0).trans ih.1, (k 1).trans ih.2.1, (k 2).trans ih.2.2.1, (k 3).trans ih.2.2.2⟩
theorem flatFce_cell {l : List Fce} {j : Nat} {u : Value} (h : (flatFce l)[j]? = some u) : ∃ (i : Nat) (hi : i < l.length) (m : Nat), m < 4 ∧ j = i * 4 + m ∧ l[i].cs[m]? = some u := by
  induction l generalizing j with
  | nil => simp [flatFce] at h
  | cons c l ih =>
    have e : flatFce (c :: l) = c.cs ++ flatFce l := rfl
    rw [e] at h
    by_cases hj : j < 4
    · rw [List.getElem?_append_left (by simpa using hj)] at h
      exact ⟨0, by simp, j, hj, by simp, h⟩
    · rw [List.getElem?_append_right (by simp; omega)] at h
      obtain ⟨i, hi, m, hm, hjm, hu⟩ := ih h
      refine ⟨i + 1, by simpa using hi, m, hm, ?_, by simpa using hu⟩
      simp at hjm; omega
theorem flatFce_one (l : List Fce) : ∀ u ∈ flatFce l, u.oneCell' = true := by
  intro u hu
  obtain ⟨s, _, hs⟩ := List.mem_flatMap.1 hu
  simp only [Fce.cs, List.mem_cons, List.not_mem_nil, or_false] at hs
  rcases hs with rfl | rfl | rfl | rfl <;> rfl
theorem FceSl.of_row {w : World} {base : Nat} {e : TypeId} {v : Value} {n : Nat} {l : List Fce} (h : w.ownsRow base e 4 v n (flatFce l)) (hb : l.length ≤ maxLen) (hr : ∀ i (h : i < l.length), i64 l[i].a ∧ i64 l[i].b ∧ i64 l[i].c ∧ i64 l[i].k) : ∃ A c, v = .slice A l.length c ∧ FceSl w A l ∧ l.length ≤ c := by
  have hn : l.length = n := by have := h.1; rw [flatFce_len] at this; omega
  rcases h.2 with ⟨rfl, h0⟩ | ⟨g, cap, cur, rfl, hg, hcell, hnc, _, hsz, htake⟩
  · rw [h0] at hn
    have : l = [] := List.eq_nil_of_length_eq_zero hn
    subst this
    exact ⟨none, 0, rfl, ⟨⟨hb, hr⟩, fun h => by simp at h⟩, by simp⟩
  · subst hn
    refine ⟨some ⟨g, 0, none⟩, cap, rfl, ⟨⟨hb, hr⟩, fun _ => ⟨g, 0, rfl, (Array.getElem?_eq_some_iff.1 hcell).1, fun i hi => ?_⟩⟩, hnc⟩
    have k := fun j u (hu : (flatFce l)[j]? = some u) => (show w.cell? ⟨g, 0 + j, none⟩ = some u by
      have hc := h.cells (g := g) rfl j u hu
      have e : (⟨g, 0, none⟩ : Addr).add j = ⟨g, 0 + j, none⟩ := by unfold Addr.add; split <;> simp_all
      rw [e] at hc
      exact hc)
    obtain ⟨a0, a1, a2, a3⟩ := flatFce_at l i hi
    exact ⟨k _ _ a0, k _ _ a1, k _ _ a2, k _ _ a3⟩
theorem FceSl.cells {w : World} {b off : Nat} {l : List Fce} (hat : ∀ i (h : i < l.length), FceAt w b (off + i * 4) l[i]) : ∀ j u, (flatFce l)[j]? = some u → w.cell? ⟨b, off + j, none⟩ = some u := by
  intro j u hj
  obtain ⟨i, hi, m, hm, rfl, hu⟩ := flatFce_cell hj
  have h := hat i hi
  rw [show off + (i * 4 + m) = off + i * 4 + m by omega]
  obtain rfl | rfl | rfl | rfl : m = 0 ∨ m = 1 ∨ m = 2 ∨ m = 3 := by omega
  · exact h.1.trans hu
  · exact h.2.1.trans hu
  · exact h.2.2.1.trans hu
  · exact h.2.2.2.trans hu
theorem fce_infoN : (Tryz.prog.info? 65).map (fun i => (i.zero, i.size, i.bytes)) = some (some (.agg #[.int .i64 0, .int .i64 0, .int .i64 0, .int .i64 0]), 4, 32) := by kernel_rfl
/-- a copy in memory of the call's own -/
def CloneFce (l : List Fce) (w : World) (e : Ending) (w' : World) : Prop := ∃ A c, e = .returned (.slice A l.length c) ∧ w'.ownsRow w.heap.size 65 4 (.slice A l.length c) l.length (flatFce l) ∧ l.length ≤ c ∧ Below w.heap.size w w'
set_option maxHeartbeats 1000000 in
theorem cloneFce_any (l : List Fce) (A : Option Addr) (c : Nat) (w : World) (hl : FceSl w A l) (hn : l.length ≤ 4000) :
    Calls Tryz.prog 25 #[.slice A l.length c] w (CloneFce l w) := by
  obtain ⟨i0, hi, hz0, hz1, hz2⟩ := info_parts fce_infoN
  cases A with
  | none =>
    have h0 : l = [] := by
      rcases Nat.eq_zero_or_pos l.length with h | h
      · exact List.eq_nil_of_length_eq_zero h
      · obtain ⟨b, off, e, _⟩ := hl.2 h; cases e
    subst h0
    have q0 : ∀ (w : World) (a : Option Addr) (n c n' c' : Nat), (binOp .eql 23 (.slice a n c) (.slice none n' c')).run Tryz.prog w = .ok (.bool a.isNone) w := fun w a n c n' c' => Lib.run_eql_slice_nil w _ _ a n c n' c' Tryz.underlying23
    go_enter Tryz.func25, Tryz.ntmps25
    go_wp2
    go_ret
    exact ⟨_, _, rfl, World.ownsRow_nil _ _ _ _, Nat.le_refl _, Below.refl _ _⟩
  | some ad =>
    have HN : Hid (∀ j u, (flatFce l)[j]? = some u → (w.alloc (.cells #[] 65)).cell? (ad.add j) = some u) := hide (fun j u hj => by
      rcases Nat.eq_zero_or_pos l.length with h | h
      · have : l = [] := List.eq_nil_of_length_eq_zero h
        subst this
        simp [flatFce] at hj
      · obtain ⟨b, off, e, hbl, hat⟩ := hl.2 h
        have e' : ad = ⟨b, off, none⟩ := by simpa using e
        subst e'
        have e : (⟨b, off, none⟩ : Addr).add j = ⟨b, off + j, none⟩ := by unfold Addr.add; split <;> simp_all
        rw [e]
        exact (((Below.refl _ w).alloc (Nat.le_refl _) (.cells #[] 65)).cell (p := ⟨b, off + j, none⟩) hbl).trans (FceSl.cells hat j u hj))
    have fl : (flatFce l).length = l.length * 4 := flatFce_len l
    have f1 : 0 + l.length ≤ maxLen := by unfold maxLen; omega
    have f2 : (0 + l.length) * 32 ≤ 140737488355328 := by omega
    have f4 := flatFce_one l
    have f5 : w.heap.size ≤ (w.alloc (.cells #[] 65)).heap.size := by simp
    have q0 : ∀ (w : World) (a : Option Addr) (n c n' c' : Nat), (binOp .eql 23 (.slice a n c) (.slice none n' c')).run Tryz.prog w = .ok (.bool a.isNone) w := fun w a n c n' c' => Lib.run_eql_slice_nil w _ _ a n c n' c' Tryz.underlying23
    clear hl
    go_enter Tryz.func25, Tryz.ntmps25
    go_wp2_with (at_builtin; refine wpList_append_own _ rfl _ _ 23 rfl w.heap.size 65 i0 (.agg #[.int .i64 0, .int .i64 0, .int .i64 0, .int .i64 0]) 4 32 Tryz.underlying23 hi hz0 hz1 hz2 rfl (by decide) _ _ _ rfl (World.ownsRow_made w #[] 0 (Nat.le_refl _) (Nat.zero_le _) rfl) ad l.length c (flatFce l) rfl fl HN.out f4 f1 f2 f5 ?_; intro v' w1 hown hgrow hnil)
    have HB : Below w.heap.size w w1 := ((Below.refl _ w).alloc (Nat.le_refl _) _).grown hgrow (by simp) (fun k hk => Nat.le_of_eq (Option.some.inj (show some w.heap.size = some k from hk)))
    rw [Nat.zero_add] at hown
    have HO := hide hown
    clear hown hgrow hnil f4 HN
    go_wp2
    go_ret
    obtain ⟨A, c, e, hc⟩ := row_sliceN HO.out
    subst e
    exact ⟨A, c, rfl, by simpa using HO.out, hc, HB⟩
end Go.Proofs.YtaaadejamjbcbaaGreatDoor

namespace Go.Proofs.YtaaadejamjbcbaaGreatDoor
open Go.RowKit

/-- a row of cells, place by place -/
def mkRow (n : Nat) (f : Nat → Value) : Array Value := ((List.range n).map f).toArray
theorem mkRow_size (n : Nat) (f : Nat → Value) : (mkRow n f).size = n := by simp [mkRow]
theorem mkRow_at (n : Nat) (f : Nat → Value) {i : Nat} (h : i < n) : (mkRow n f)[i]? = some (f i) := by simp [mkRow, h]
theorem mkRow_set (n : Nat) (f : Nat → Value) (i : Nat) (v : Value) : (mkRow n f).setIfInBounds i v = mkRow n (fun j => if j = i then v else f j) := by
  apply Array.ext
  · simp [mkRow]
  · intro j h1 h2
    simp only [mkRow, Array.size_setIfInBounds, List.size_toArray, List.length_map, List.length_range] at h1
    by_cases e : j = i
    · subst e; simp [mkRow]
    · rw [Array.getElem_setIfInBounds_ne (hj := by simpa [mkRow] using h1) (h := fun h => e h.symm)]
      simp [mkRow, e]
theorem mkRow_congr {n : Nat} {f g : Nat → Value} (h : ∀ i, i < n → f i = g i) : mkRow n f = mkRow n g := by
  unfold mkRow
  congr 1
  exact List.map_congr_left (fun i hi => h i (List.mem_range.1 hi))
theorem mkRow_made (n : Nat) (z : Value) : madeCells #[z] n = mkRow n (fun _ => z) := by
  apply Array.ext'
  rw [toList_madeCells_one]
  simp [mkRow, List.map_const']
/-- a block of the call's own that holds integers, read as a slice -/
theorem IntSl.of_blk {w : World} {g n : Nat} {t : TypeId} {f : Nat → Int} (h : Blk w g t (mkRow n (fun i => .int .i64 (f i)))) (hn : n ≤ 9223372036854775807) (hr : ∀ i, i < n → -9223372036854775808 ≤ f i ∧ f i ≤ 9223372036854775807) : IntSl w (some ⟨g, 0, none⟩) ((List.range n).map f) := by
  refine ⟨⟨by simpa using hn, fun i hi => ?_⟩, fun _ => ⟨g, 0, rfl, h.lt, fun i hi => ?_⟩⟩
  · simp only [List.length_map, List.length_range] at hi
    simpa using hr i hi
  · simp only [List.length_map, List.length_range] at hi
    rw [Nat.zero_add, h.cell, mkRow_at n _ hi]
    simp
end Go.Proofs.YtaaadejamjbcbaaGreatDoor

namespace Go.Proofs.YtaaadejamjbcbaaGreatDoor
open Go Go.RowKit

def twA (ss : List Spt) (f : Fce) : Int := trn (triA ss f).p (triA ss f).q (triA ss f).r
/-- the area of an inlet and a class, of the first faces -/
def arV (ss : List Spt) (fs : List Fce) (inl : List Int) : Nat → Nat → Nat → Int
  | 0, _, _ => 0
  | k + 1, i, c => arV ss fs inl k i c + if inl.getD k (-1) = (i : Int) ∧ (fcA fs k).k = (c : Int) then twA ss (fcA fs k) else 0
/-- so many rows are wanted by the first inlets -/
def rwN (inl : List Int) : Nat → Nat
  | 0 => 0
  | k + 1 => max (rwN inl k) (inl.getD k (-1) + 1).toNat
theorem arV_far {ss : List Spt} {fs : List Fce} {inl : List Int} {i c : Nat} : ∀ {k : Nat}, rwN inl k ≤ i → arV ss fs inl k i c = 0
  | 0, _ => rfl
  | k + 1, h => by
    simp only [rwN] at h
    simp only [arV]
    rw [arV_far (by omega), if_neg (fun e => by have := e.1; omega)]
    rfl
theorem rwN_le {inl : List Int} (h : ∀ k, inl.getD k (-1) ≤ 299) : ∀ k, rwN inl k ≤ 300
  | 0 => by simp [rwN]
  | k + 1 => by
    have := rwN_le h k
    have := h k
    simp only [rwN]; omega
theorem arV_bd {ss : List Spt} {fs : List Fce} {inl : List Int} {n : Nat} (h : ∀ k, k < n → -2251799813685248 ≤ twA ss (fcA fs k) ∧ twA ss (fcA fs k) ≤ 2251799813685248) (i c : Nat) : ∀ k, k ≤ n → -(2251799813685248 * (k : Int)) ≤ arV ss fs inl k i c ∧ arV ss fs inl k i c ≤ 2251799813685248 * (k : Int)
  | 0, _ => by simp [arV]
  | k + 1, hk => by
    have := arV_bd (inl := inl) h i c k (by omega)
    have := h k (by omega)
    simp only [arV]
    split <;> omega
theorem trn_bd2 {a b c : Pnt} (ha : a.in) (hb : b.in) (hc : c.in) : -2251799813685248 ≤ trn a b c ∧ trn a b c ≤ 2251799813685248 := by
  obtain ⟨h1, h2⟩ := trn_bd ha hb hc
  unfold trn
  omega
/-- the faces of a valid surface are right -/
theorem vM_face {ss : List Spt} {fs : List Fce} (h : vM ⟨ss, fs⟩ = true) : ∀ i, i < fs.length → crB ss (fcA fs i) = true ∧ posB ss (fcA fs i) = true := by
  intro i hi
  simp only [vM, Bool.and_eq_true, decide_eq_true_eq] at h
  obtain ⟨_, _, _, h3, h4, _⟩ := h
  have k3 : ¬ i ∈ fin3 ss fs fs.length := by
    rw [show fin3 ss fs fs.length = [] from h3]; simp
  have k4 : ¬ i ∈ fin4 ss fs fs.length := by
    rw [show fin4 ss fs fs.length = [] from h4]; simp
  have c : crB ss (fcA fs i) = true := by
    cases e : crB ss (fcA fs i) with
    | true => rfl
    | false => exact absurd (by simp [fin3, hi, e]) k3
  refine ⟨c, ?_⟩
  cases e : posB ss (fcA fs i) with
  | true => rfl
  | false => exact absurd (by simp [fin4, hi, e, c]) k4
theorem vM_small {ss : List Spt} {fs : List Fce} (h : vM ⟨ss, fs⟩ = true) : ss.length ≤ 2000 ∧ fs.length ≤ 4000 := by
  simp only [vM, smB, Bool.and_eq_true, decide_eq_true_eq] at h
  exact h.1
theorem crB_natA {ss : List Spt} {a b c k : Int} (h : crB ss ⟨a, b, c, k⟩ = true) : ∃ x y z : Nat, a = x ∧ b = y ∧ c = z ∧ x < ss.length ∧ y < ss.length ∧ z < ss.length := by
  simp only [crB, cnB, Bool.and_eq_true, decide_eq_true_eq] at h
  obtain ⟨⟨⟨⟨⟨⟨⟨h1, h2⟩, h3⟩, _⟩, _⟩, _⟩, _⟩, _⟩ := h
  exact ⟨a.toNat, b.toNat, c.toNat, by omega, by omega, by omega, by omega, by omega, by omega⟩
def bdI (i : Int) : Bool := decide (i < -1) || decide (300 ≤ i)
/-- the error for a valid surface -/
def arE (fs : List Fce) (inl : List Int) (c : Int) : Int :=
  if inl.length ≠ fs.length then 3 else if c < 1 ∨ 16 < c ∨ inl.any bdI = true then 2 else if fs.any (fun f => decide (c ≤ f.k)) = true then 11 else 0
/-- rows of integers in blocks of their own -/
structure Tr (W : World) (B : Nat) (V : Value) (gs : List Nat) (n : Nat) (f : Nat → Nat → Int) : Prop where
  v : W.ownsRow B 35 1 V gs.length (gs.map fun g => Value.slice (some ⟨g, 0, none⟩) n n)
  r : ∀ i (h : i < gs.length), Blk W gs[i] 3 (mkRow n fun x => .int .i64 (f i x))
  nd : gs.Nodup
  ge : ∀ g ∈ gs, B ≤ g
section
variable {W W' : World} {B n : Nat} {V : Value} {gs : List Nat} {f : Nat → Nat → Int}
theorem Tr.to (h : Tr W B V gs n f) (hb : Below W.heap.size W W') : Tr W' B V gs n f :=
  ⟨row_below h.v hb, fun i hi => (h.r i hi).below hb (h.r i hi).lt, h.nd, h.ge⟩
theorem Tr.nil (W : World) (B n : Nat) (f : Nat → Nat → Int) : Tr W B (.slice none 0 0) [] n f :=
  ⟨World.ownsRow_nil _ _ _ _, fun i h => by simp at h, List.nodup_nil, by simp⟩
theorem Tr.congr {f' : Nat → Nat → Int} (h : Tr W B V gs n f) (e : ∀ i x, i < gs.length → x < n → f i x = f' i x) : Tr W B V gs n f' :=
  ⟨h.v, fun i hi => by rw [← mkRow_congr (f := fun x => .int .i64 (f i x)) (g := fun x => .int .i64 (f' i x)) (fun x hx => by rw [e i x hi hx])]; exact h.r i hi, h.nd, h.ge⟩
theorem Tr.fresh (h : Tr W B V gs n f) : ∀ g ∈ gs, g < W.heap.size := fun g hg => by
  obtain ⟨i, hi, rfl⟩ := List.mem_iff_getElem.1 hg
  exact (h.r i hi).lt
/-- one row of zeros more -/
theorem Tr.app (h : Tr W B V gs n f) (hB : B ≤ W.heap.size) (h0 : ∀ x, x < n → f gs.length x = 0) {V' : Value} (hown : W'.ownsRow B 35 1 V' (gs.length + 1) ((gs.map fun g => Value.slice (some ⟨g, 0, none⟩) n n) ++ [.slice (some ⟨W.heap.size, 0, none⟩) n n]))
    (hg : ((W.alloc (.cells (mkRow n fun _ => .int .i64 0) 3)).alloc (.cells #[.slice (some ⟨W.heap.size, 0, none⟩) n n] 35)).grownBy W' V.ownBlock) : Tr W' B V' (gs ++ [W.heap.size]) n f := by
  have O := (((Own.start W).alloc (mkRow n fun _ => .int .i64 0) 3).alloc #[.slice (some ⟨W.heap.size, 0, none⟩) n n] 35)
  have t := h.to O.1
  have k : ∀ {g : Nat} {cs : Array Value}, Blk ((W.alloc (.cells (mkRow n fun _ => .int .i64 0) 3)).alloc (.cells #[.slice (some ⟨W.heap.size, 0, none⟩) n n] 35)) g 3 cs → Blk W' g 3 cs := fun hb => hb.grown hg (Ne.symm (own_blk_ne t.v hb (by decide)))
  refine ⟨by rw [List.length_append, List.map_append]; exact hown, fun i hi => ?_, ?_, fun g hg' => ?_⟩
  · rw [List.length_append, List.length_singleton] at hi
    by_cases e : i < gs.length
    · rw [List.getElem_append_left e]
      exact k (t.r i e)
    · obtain rfl : i = gs.length := by omega
      rw [List.getElem_append_right (Nat.le_refl _)]
      simp only [Nat.sub_self, List.getElem_singleton]
      rw [mkRow_congr (fun x hx => by rw [h0 x hx]) (g := fun _ => .int .i64 0)]
      exact k (O.tail.2 (W.heap.size, 3, mkRow n fun _ => .int .i64 0) (by simp))
  · rw [List.nodup_append]
    refine ⟨h.nd, by simp, fun a ha b hb => ?_⟩
    rw [List.mem_singleton.1 hb]
    have := h.fresh a ha
    omega
  · rcases List.mem_append.1 hg' with e | e
    · exact h.ge g e
    · rw [List.mem_singleton.1 e]; exact hB
theorem Tr.set (h : Tr W B V gs n f) {i x : Nat} (hi : i < gs.length) (hx : x < n) (u : Int) : Tr (W.setCell ⟨gs[i], x, none⟩ (.int .i64 u)) B V gs n (fun j y => if j = i ∧ y = x then u else f j y) := by
  refine ⟨row_set h.v (h.r i hi) (by decide) x _, fun j hj => ?_, h.nd, h.ge⟩
  by_cases e : j = i
  · subst e
    have := (h.r j hj).set_ x (.int .i64 u)
    rw [mkRow_set] at this
    rw [mkRow_congr (fun y _ => ?_)]
    · exact this
    · by_cases ey : y = x
      · subst ey; simp
      · simp [ey]
  · have ne : gs[j] ≠ gs[i] := by
      rcases Nat.lt_or_gt_of_ne e with l | l
      · exact List.pairwise_iff_getElem.1 h.nd j i hj hi l
      · exact Ne.symm (List.pairwise_iff_getElem.1 h.nd i j hi hj l)
    have := (h.r j hj).off (o := x) ne (.int .i64 u)
    rw [mkRow_congr (fun y _ => by simp [e]) (g := fun y => .int .i64 (f j y))]
    exact this
/-- the table's slice, and its rows -/
theorem Tr.slice (h : Tr W B V gs n f) : ∃ A c, V = .slice A gs.length c ∧ gs.length ≤ c ∧ (0 < gs.length → ∃ g, A = some ⟨g, 0, none⟩ ∧ g < W.heap.size ∧ ∀ i (hi : i < gs.length), W.cell? ⟨g, i, none⟩ = some (.slice (some ⟨gs[i], 0, none⟩) n n)) := by
  rcases h.v.2 with ⟨rfl, h0⟩ | ⟨g, cap, cur, rfl, hg, hc, hn, _⟩
  · exact ⟨none, 0, by rw [h0], by omega, fun h => by omega⟩
  · refine ⟨some ⟨g, 0, none⟩, cap, rfl, hn, fun _ => ⟨g, rfl, (Array.getElem?_eq_some_iff.1 hc).1, fun i hi => ?_⟩⟩
    have := h.v.cells (g := g) rfl i (.slice (some ⟨gs[i], 0, none⟩) n n) (by simp [hi])
    rwa [show (⟨g, 0, none⟩ : Addr).add i = ⟨g, i, none⟩ by unfold Addr.add; split <;> simp_all] at this
theorem Tr.val (h : Tr W B V gs n f) {i x : Nat} (hi : i < gs.length) (hx : x < n) : W.cell? ⟨gs[i], x, none⟩ = some (.int .i64 (f i x)) := by
  rw [(h.r i hi).cell, mkRow_at n _ hx]
end
/-- the table beside boxes of the call's own -/
structure Ta (w W : World) (B : Nat) (C : List (Nat × TypeId × Array Value)) (V : Value) (gs : List Nat) (n : Nat) (f : Nat → Nat → Int) : Prop where
  own : Own w W C
  tr : Tr W B V gs n f
  bx : ∀ x ∈ C, x.1 < B ∧ 35 ≠ x.2.1
  hB : w.heap.size ≤ B ∧ B ≤ W.heap.size
section
variable {w W W' : World} {B n : Nat} {C : List (Nat × TypeId × Array Value)} {V : Value} {gs : List Nat} {f : Nat → Nat → Int}
theorem Ta.to (h : Ta w W B C V gs n f) (hb : Below W.heap.size W W') : Ta w W' B C V gs n f := ⟨h.own.to hb, h.tr.to hb, h.bx, h.hB.1, Nat.le_trans h.hB.2 hb.size⟩
theorem Ta.app (h : Ta w W B C V gs n f) (h0 : ∀ x, x < n → f gs.length x = 0) {V' : Value} (hown : W'.ownsRow B 35 1 V' (gs.length + 1) ((gs.map fun g => Value.slice (some ⟨g, 0, none⟩) n n) ++ [.slice (some ⟨W.heap.size, 0, none⟩) n n]))
    (hg : ((W.alloc (.cells (mkRow n fun _ => .int .i64 0) 3)).alloc (.cells #[.slice (some ⟨W.heap.size, 0, none⟩) n n] 35)).grownBy W' V.ownBlock) : Ta w W' B C V' (gs ++ [W.heap.size]) n f := by
  have O := (((Own.start W).alloc (mkRow n fun _ => .int .i64 0) 3).alloc #[.slice (some ⟨W.heap.size, 0, none⟩) n n] 35).1
  have r0 := (h.tr.to O).v
  refine ⟨(h.own.to O).grown ⟨r0.1, r0.2.imp id fun ⟨g, cap, cur, h1, h2, h3⟩ => ⟨g, cap, cur, h1, Nat.le_trans h.hB.1 h2, h3⟩⟩ hg (fun x hx => (h.bx x hx).2), h.tr.app h.hB.2 h0 hown hg, h.bx, h.hB.1, Nat.le_trans (Nat.le_trans h.hB.2 O.size) hg.size⟩
theorem Ta.set (h : Ta w W B C V gs n f) {i x : Nat} (hi : i < gs.length) (hx : x < n) (u : Int) : Ta w (W.setCell ⟨gs[i], x, none⟩ (.int .i64 u)) B C V gs n (fun j y => if j = i ∧ y = x then u else f j y) := by
  have hge := h.tr.ge _ (List.getElem_mem hi)
  refine ⟨⟨below_set h.own.1 (Nat.le_trans h.hB.1 hge) _, fun y hy => (h.own.2 y hy).off (fun e => ?_) _⟩, h.tr.set hi hx u, h.bx, h.hB.1, by simpa [World.setCell] using h.hB.2⟩
  have := (h.bx y hy).1
  omega
theorem Ta.congr {f' : Nat → Nat → Int} (h : Ta w W B C V gs n f) (e : ∀ i x, i < gs.length → x < n → f i x = f' i x) : Ta w W B C V gs n f' := ⟨h.own, h.tr.congr e, h.bx, h.hB⟩
end
end Go.Proofs.YtaaadejamjbcbaaGreatDoor
