/- Parts of one proof, joined: What a walk owns: blocks of its own that are known whole, carried from world to world; nothing below them is turned. Spans of integers, said of integers: sums, products, quotients rounded down and up, square roots. Decimal numerals: what Itoa prints is read again by Atoi and by digit loops; where a separator stands; plain facts. Texts: values of lists of bytes; the table of powers of ten is kept. Texts: strconv.Itoa and strconv.Atoi at lists of bytes, where the variables that they read are as laid; nothing that was there is turned. Texts: strings.Cut at lists of bytes; nothing that was there is turned. Texts of spans: what the program and the reference read from a text; plain facts. A number by its text, as a span of one number; plain facts. (Printed by gen_ct.py.). Decimal integers without sign of at most nine digits (chapter 15): what the program and the reference read; plain facts. Parts of a text between bytes of a kind: what strings.Split returns at a separator of one byte, and what the references' loops gather; plain facts. -/
import Derived.Test.YtlnlaopokelggaaGreatDoorPkCostsTexts1
import Derived.Lib.AtoiAllCases
import Derived.Lib.ItoaNum
import Derived.Lib.ItoaLen
import Derived.Lib.IndexMore
import Derived.Test.YtlnlaopokelggaaGreatDoorShelf3
import Derived.Lib.AppendIntMem
import Derived.Shelf.Vars
import Derived.Lib.AtoiErrMem
import Derived.Stop.LaidErr
import Derived.Lib.Split
import Derived.Lib.CountLaws
namespace Go.Proofs.YtlnlaopokelggaaGreatDoor
open Go.RowKit

theorem lt_of_cell {w : World} {p : Addr} {v : Value} (h : w.cell? p = some v) : p.block < w.heap.size := by
  rcases Nat.lt_or_ge p.block w.heap.size with hl | hl
  · exact hl
  · exfalso
    have : w.heap[p.block]? = none := Array.getElem?_eq_none hl
    simp [World.cell?, this] at h
theorem below_via {B : Nat} {a w w' : World} (h : Below B a w) (hB : B ≤ w.heap.size) (k : Below w.heap.size w w') : Below B a w' := h.trans (k.mono hB)
theorem below_cells {B : Nat} {W w1 : World} (hb : Below B W w1) : (∀ b o, b < B → w1.cell? ⟨b, o, none⟩ = W.cell? ⟨b, o, none⟩) ∧ (∀ b o, b < B → w1.frozen? ⟨b, o, none⟩ = W.frozen? ⟨b, o, none⟩) :=
  ⟨fun b o h => hb.cell (p := ⟨b, o, none⟩) h, fun b o h => hb.frozen (p := ⟨b, o, none⟩) h⟩
theorem Blk.off {w : World} {g : Nat} {t : TypeId} {cs : Array Value} (h : Blk w g t cs) {b o : Nat} (hp : g ≠ b) (u : Value) : Blk (w.setCell ⟨b, o, none⟩ u) g t cs := h.far (p := ⟨b, o, none⟩) hp u
theorem below_set {B : Nat} {a w : World} (h : Below B a w) {b o : Nat} (hp : B ≤ b) (u : Value) : Below B a (w.setCell ⟨b, o, none⟩ u) := h.setCell (p := ⟨b, o, none⟩) hp u
theorem keeps {w w' : World} (h : Below w.heap.size w w') : ∀ b o v, w.cell? ⟨b, o, none⟩ = some v → w'.cell? ⟨b, o, none⟩ = some v := fun b o _ hc => (h.cell (p := ⟨b, o, none⟩) (lt_of_cell hc)).trans hc

/-- what the call owns in W: each block of the list whole; what was there in w is as it was -/
def Own (w W : World) (L : List (Nat × TypeId × Array Value)) : Prop := Below w.heap.size w W ∧ ∀ x ∈ L, Blk W x.1 x.2.1 x.2.2
theorem Own.start (w : World) : Own w w [] := ⟨Below.refl _ _, fun _ h => by cases h⟩
theorem Own.to {w W W' : World} {L : List (Nat × TypeId × Array Value)} (h : Own w W L) (hb : Below W.heap.size W W') : Own w W' L :=
  ⟨below_via h.1 h.1.size hb, fun x hx => (h.2 x hx).below hb (h.2 x hx).lt⟩
theorem Own.drew {w W : World} {L : List (Nat × TypeId × Array Value)} (h : Own w W L) : Own w W.drew L := ⟨h.1.drew, fun x hx => (h.2 x hx).drew⟩
theorem Own.alloc {w W : World} {L : List (Nat × TypeId × Array Value)} (h : Own w W L) (cs : Array Value) (t : TypeId) : Own w (W.alloc (.cells cs t)) ((W.heap.size, t, cs) :: L) :=
  ⟨h.1.alloc h.1.size _, fun x hx => by
    rcases List.mem_cons.1 hx with rfl | hx
    · exact Blk.new W t cs
    · exact (h.2 x hx).alloc _⟩
/-- a store into the first block of the list -/
theorem Own.set0 {w W : World} {b : Nat} {t : TypeId} {cs : Array Value} {L : List (Nat × TypeId × Array Value)} (h : Own w W ((b, t, cs) :: L)) (hb : w.heap.size ≤ b) (hn : ∀ x ∈ L, x.1 ≠ b) (i : Nat) (u : Value) :
    Own w (W.setCell ⟨b, i, none⟩ u) ((b, t, cs.setIfInBounds i u) :: L) :=
  ⟨below_set h.1 hb u, fun x hx => by
    rcases List.mem_cons.1 hx with rfl | hx
    · exact (h.2 _ (List.mem_cons_self ..)).set_ i u
    · exact (h.2 x (List.mem_cons_of_mem _ hx)).off (hn x hx) u⟩
theorem Own.swap {w W : World} {x y : Nat × TypeId × Array Value} {L} (h : Own w W (x :: y :: L)) : Own w W (y :: x :: L) :=
  ⟨h.1, fun z hz => by
    rcases List.mem_cons.1 hz with rfl | hz
    · exact h.2 _ (by simp)
    · rcases List.mem_cons.1 hz with rfl | hz
      · exact h.2 _ (by simp)
      · exact h.2 _ (by simp [hz])⟩
/-- the rules that the walk uses of one block -/
def Rules (W : World) (x : Nat × TypeId × Array Value) : Prop := (∀ i, W.cell? ⟨x.1, i, none⟩ = x.2.2[i]?) ∧ (∀ i, W.frozen? ⟨x.1, i, none⟩ = false) ∧ x.1 < W.heap.size
theorem Blk.rules {W : World} {b : Nat} {t : TypeId} {cs : Array Value} (h : Blk W b t cs) : (∀ i, W.cell? ⟨b, i, none⟩ = cs[i]?) ∧ (∀ i, W.frozen? ⟨b, i, none⟩ = false) ∧ b < W.heap.size := ⟨h.cell, h.frozen, h.lt⟩
theorem Own.r1 {w W : World} {b0 : Nat} {t0 : TypeId} {c0 : Array Value} {L} (h : Own w W ((b0, t0, c0) :: L)) :
    (∀ i, W.cell? ⟨b0, i, none⟩ = c0[i]?) ∧ (∀ i, W.frozen? ⟨b0, i, none⟩ = false) ∧ b0 < W.heap.size := (h.2 (b0, t0, c0) (by simp)).rules
theorem Own.tail {w W : World} {x : Nat × TypeId × Array Value} {L} (h : Own w W (x :: L)) : Own w W L := ⟨h.1, fun y hy => h.2 y (List.mem_cons_of_mem _ hy)⟩
theorem Own.r2 {w W : World} {b0 b1 : Nat} {t0 t1 : TypeId} {c0 c1 : Array Value} {L} (h : Own w W ((b0, t0, c0) :: (b1, t1, c1) :: L)) :
    ((∀ i, W.cell? ⟨b0, i, none⟩ = c0[i]?) ∧ (∀ i, W.frozen? ⟨b0, i, none⟩ = false) ∧ b0 < W.heap.size) ∧
    ((∀ i, W.cell? ⟨b1, i, none⟩ = c1[i]?) ∧ (∀ i, W.frozen? ⟨b1, i, none⟩ = false) ∧ b1 < W.heap.size) := ⟨h.r1, h.tail.r1⟩
theorem Own.r3 {w W : World} {b0 b1 b2 : Nat} {t0 t1 t2 : TypeId} {c0 c1 c2 : Array Value} {L} (h : Own w W ((b0, t0, c0) :: (b1, t1, c1) :: (b2, t2, c2) :: L)) :
    ((∀ i, W.cell? ⟨b0, i, none⟩ = c0[i]?) ∧ (∀ i, W.frozen? ⟨b0, i, none⟩ = false) ∧ b0 < W.heap.size) ∧
    ((∀ i, W.cell? ⟨b1, i, none⟩ = c1[i]?) ∧ (∀ i, W.frozen? ⟨b1, i, none⟩ = false) ∧ b1 < W.heap.size) ∧
    ((∀ i, W.cell? ⟨b2, i, none⟩ = c2[i]?) ∧ (∀ i, W.frozen? ⟨b2, i, none⟩ = false) ∧ b2 < W.heap.size) := ⟨h.r1, h.tail.r2⟩
theorem Own.r4 {w W : World} {b0 b1 b2 b3 : Nat} {t0 t1 t2 t3 : TypeId} {c0 c1 c2 c3 : Array Value} {L} (h : Own w W ((b0, t0, c0) :: (b1, t1, c1) :: (b2, t2, c2) :: (b3, t3, c3) :: L)) :
    ((∀ i, W.cell? ⟨b0, i, none⟩ = c0[i]?) ∧ (∀ i, W.frozen? ⟨b0, i, none⟩ = false) ∧ b0 < W.heap.size) ∧
    ((∀ i, W.cell? ⟨b1, i, none⟩ = c1[i]?) ∧ (∀ i, W.frozen? ⟨b1, i, none⟩ = false) ∧ b1 < W.heap.size) ∧
    ((∀ i, W.cell? ⟨b2, i, none⟩ = c2[i]?) ∧ (∀ i, W.frozen? ⟨b2, i, none⟩ = false) ∧ b2 < W.heap.size) ∧
    ((∀ i, W.cell? ⟨b3, i, none⟩ = c3[i]?) ∧ (∀ i, W.frozen? ⟨b3, i, none⟩ = false) ∧ b3 < W.heap.size) := ⟨h.r1, h.tail.r3⟩
theorem Own.r5 {w W : World} {b0 b1 b2 b3 b4 : Nat} {t0 t1 t2 t3 t4 : TypeId} {c0 c1 c2 c3 c4 : Array Value} {L} (h : Own w W ((b0, t0, c0) :: (b1, t1, c1) :: (b2, t2, c2) :: (b3, t3, c3) :: (b4, t4, c4) :: L)) :
    ((∀ i, W.cell? ⟨b0, i, none⟩ = c0[i]?) ∧ (∀ i, W.frozen? ⟨b0, i, none⟩ = false) ∧ b0 < W.heap.size) ∧
    ((∀ i, W.cell? ⟨b1, i, none⟩ = c1[i]?) ∧ (∀ i, W.frozen? ⟨b1, i, none⟩ = false) ∧ b1 < W.heap.size) ∧
    ((∀ i, W.cell? ⟨b2, i, none⟩ = c2[i]?) ∧ (∀ i, W.frozen? ⟨b2, i, none⟩ = false) ∧ b2 < W.heap.size) ∧
    ((∀ i, W.cell? ⟨b3, i, none⟩ = c3[i]?) ∧ (∀ i, W.frozen? ⟨b3, i, none⟩ = false) ∧ b3 < W.heap.size) ∧
    ((∀ i, W.cell? ⟨b4, i, none⟩ = c4[i]?) ∧ (∀ i, W.frozen? ⟨b4, i, none⟩ = false) ∧ b4 < W.heap.size) := ⟨h.r1, h.tail.r4⟩
end Go.Proofs.YtlnlaopokelggaaGreatDoor

namespace Go.Proofs.YtlnlaopokelggaaGreatDoor

structure Sp where
  lo : Int
  hi : Int
abbrev Sp.val (a : Sp) : Value := .agg #[.int .i64 a.lo, .int .i64 a.hi]
def Sp.zero : Sp := ⟨0, 0⟩
def fitB (n : Int) : Bool := decide (-72057594037927936 ≤ n ∧ n ≤ 72057594037927936)
theorem fitB_iff {n : Int} : fitB n = true ↔ -72057594037927936 ≤ n ∧ n ≤ 72057594037927936 := by simp [fitB]
theorem fitB_not {n : Int} : fitB n = false ↔ n < -72057594037927936 ∨ 72057594037927936 < n := by simp [fitB]; omega
def vB (a : Sp) : Bool := decide (a.lo ≤ a.hi) && fitB a.lo && fitB a.hi
theorem vB_iff {a : Sp} : vB a = true ↔ a.lo ≤ a.hi ∧ -72057594037927936 ≤ a.lo ∧ a.hi ≤ 72057594037927936 := by
  simp only [vB, Bool.and_eq_true, decide_eq_true_eq, fitB_iff]; omega
def resE (lo hi : Int) : Int := if fitB lo = true ∧ fitB hi = true then 0 else 5
def resS (lo hi : Int) : Sp := if fitB lo = true ∧ fitB hi = true then ⟨lo, hi⟩ else Sp.zero
/-- a quotient rounded down, for any divisor that is not 0; and up -/
def dn (n d : Int) : Int := if d < 0 then (-n) / (-d) else n / d
def up (n d : Int) : Int := -dn (-n) d
theorem dn_bd {n d : Int} (hd : 0 < d) : dn n d * d ≤ n ∧ n < (dn n d + 1) * d := by
  unfold dn
  rw [if_neg (by omega)]
  have h := Int.mul_ediv_add_emod n d
  have h1 := Int.emod_nonneg n (by omega : d ≠ 0)
  have h2 := Int.emod_lt_of_pos n hd
  have e : (n / d + 1) * d = d * (n / d) + d := by rw [Int.add_mul, Int.mul_comm]; omega
  have e2 : n / d * d = d * (n / d) := Int.mul_comm _ _
  omega
theorem dn_neg (n d : Int) (hd : d < 0) : dn n d = dn (-n) (-d) := by
  unfold dn; rw [if_pos hd, if_neg (by omega)]
theorem dn_uniq {n d q : Int} (hd : 0 < d) (h1 : q * d ≤ n) (h2 : n < (q + 1) * d) : dn n d = q := by
  obtain ⟨k1, k2⟩ := dn_bd (n := n) hd
  have a : dn n d < q + 1 := by
    apply Int.lt_of_mul_lt_mul_right (a := d) _ (by omega)
    omega
  have b : q < dn n d + 1 := by
    apply Int.lt_of_mul_lt_mul_right (a := d) _ (by omega)
    omega
  omega
theorem up_bd {n d : Int} (hd : 0 < d) : n ≤ up n d * d ∧ (up n d - 1) * d < n := by
  obtain ⟨k1, k2⟩ := dn_bd (n := -n) hd
  unfold up
  have e1 : -dn (-n) d * d = -(dn (-n) d * d) := by rw [Int.neg_mul]
  have e2 : (-dn (-n) d - 1) * d = -((dn (-n) d + 1) * d) := by rw [← Int.neg_mul]; congr 1; omega
  omega
/-- the quotient of magnitudes, with a sign -/
theorem dn_mag {m d : Nat} (hd : 0 < d) (s : Int) (hs : s = 1 ∨ s = -1) (t : Int) (ht : t = 1 ∨ t = -1) :
    dn (s * m) (t * d) = if s = t then ((m / d : Nat) : Int) else -(((m / d : Nat) : Int) + if m % d = 0 then 0 else 1) := by
  have h := Nat.div_add_mod m d
  have hlt := Nat.mod_lt m hd
  have hz : (m : Int) = d * (m / d : Nat) + (m % d : Nat) := by
    have : ((d * (m / d) + m % d : Nat) : Int) = m := by rw [h]
    rw [← this]; simp
  generalize (m / d) = q at *
  generalize (m % d) = r at *
  have same : dn (m : Int) (d : Int) = q := by
    apply dn_uniq (by omega)
    · rw [Int.mul_comm]; omega
    · rw [Int.add_mul, Int.mul_comm]; omega
  have opp : dn (-(m : Int)) (d : Int) = -((q : Int) + if r = 0 then 0 else 1) := by
    apply dn_uniq (by omega)
    · by_cases e : r = 0
      · rw [if_pos e, Int.add_zero, Int.neg_mul, Int.mul_comm (q : Int)]; omega
      · rw [if_neg e, Int.neg_mul, Int.add_mul, Int.mul_comm (q : Int)]; omega
    · by_cases e : r = 0
      · rw [if_pos e, Int.add_zero, Int.add_mul, Int.neg_mul, Int.mul_comm (q : Int)]; omega
      · rw [if_neg e, show -((q : Int) + 1) + 1 = -(q : Int) by omega, Int.neg_mul, Int.mul_comm (q : Int)]; omega
  rcases hs with rfl | rfl <;> rcases ht with rfl | rfl
  · simp only [Int.one_mul, if_true]; exact same
  · rw [dn_neg _ _ (by omega), if_neg (by omega)]; simp only [Int.one_mul, Int.neg_mul, Int.neg_neg]; exact opp
  · rw [if_neg (by omega)]; simp only [Int.one_mul, Int.neg_mul]; exact opp
  · rw [dn_neg _ _ (by omega), if_pos rfl]; simp only [Int.one_mul, Int.neg_mul, Int.neg_neg]; exact same
/-- the greatest integer whose square is at most a number -/
def isqN : Nat → Nat
  | 0 => 0
  | n + 1 => if (isqN n + 1) * (isqN n + 1) ≤ n + 1 then isqN n + 1 else isqN n
theorem isqN_bd : ∀ n : Nat, isqN n * isqN n ≤ n ∧ n < (isqN n + 1) * (isqN n + 1)
  | 0 => by simp [isqN]
  | n + 1 => by
    obtain ⟨h1, h2⟩ := isqN_bd n
    unfold isqN
    split
    · rename_i h
      refine ⟨h, ?_⟩
      have : (isqN n + 1 + 1) * (isqN n + 1 + 1) = (isqN n + 1) * (isqN n + 1) + 2 * (isqN n + 1) + 1 := by
        generalize isqN n + 1 = x
        simp only [Nat.add_mul, Nat.mul_add]; omega
      omega
    · exact ⟨by omega, by omega⟩
def isq (n : Int) : Int := isqN n.toNat
theorem isq_bd {n : Int} (h : 0 ≤ n) : 0 ≤ isq n ∧ isq n * isq n ≤ n ∧ n < (isq n + 1) * (isq n + 1) := by
  obtain ⟨h1, h2⟩ := isqN_bd n.toNat
  unfold isq
  refine ⟨by omega, ?_, ?_⟩
  · have : ((isqN n.toNat * isqN n.toNat : Nat) : Int) ≤ n := by omega
    simpa using this
  · have : n < (((isqN n.toNat + 1) * (isqN n.toNat + 1) : Nat) : Int) := by omega
    simpa using this
theorem sq_lt {a b : Int} (ha : 0 ≤ a) (h : a * a < b * b) (hb : 0 ≤ b) : a < b := by
  rcases Int.lt_or_le a b with k | k
  · exact k
  · have := Int.mul_le_mul k k hb ha
    omega
theorem sq_le {a b : Int} (ha : 0 ≤ a) (h : a ≤ b) : a * a ≤ b * b := Int.mul_le_mul h h ha (by omega)
theorem isq_uniq {n r : Int} (h : 0 ≤ n) (h0 : 0 ≤ r) (h1 : r * r ≤ n) (h2 : n < (r + 1) * (r + 1)) : isq n = r := by
  obtain ⟨k0, k1, k2⟩ := isq_bd h
  have a := sq_lt (a := r) (b := isq n + 1) h0 (by omega) (by omega)
  have b := sq_lt (a := isq n) (b := r + 1) k0 (by omega) (by omega)
  omega
theorem isq_mono {n m : Int} (h : 0 ≤ n) (hm : n ≤ m) : isq n ≤ isq m := by
  obtain ⟨k0, k1, k2⟩ := isq_bd h
  obtain ⟨j0, j1, j2⟩ := isq_bd (n := m) (by omega)
  have := sq_lt (a := isq n) (b := isq m + 1) k0 (by omega) (by omega)
  omega
def isqU (n : Int) : Int := if isq n * isq n < n then isq n + 1 else isq n
def negE (a : Sp) : Int := if vB a = true then 0 else 1
def negS (a : Sp) : Sp := if vB a = true then ⟨-a.hi, -a.lo⟩ else Sp.zero
theorem neg_yes {a : Sp} (h : vB a = true) : negE a = 0 ∧ negS a = ⟨-a.hi, -a.lo⟩ := by simp [negE, negS, h]
theorem neg_no {a : Sp} (h : vB a = false) : negE a = 1 ∧ negS a = Sp.zero := by simp [negE, negS, h]
def hullS (a b : Sp) : Sp := ⟨if b.lo < a.lo then b.lo else a.lo, if a.hi < b.hi then b.hi else a.hi⟩
def meetV (a b : Sp) : Sp := ⟨if a.lo < b.lo then b.lo else a.lo, if b.hi < a.hi then b.hi else a.hi⟩
def meetE (a b : Sp) : Int := if (meetV a b).lo ≤ (meetV a b).hi then 0 else 21
def meetS (a b : Sp) : Sp := if (meetV a b).lo ≤ (meetV a b).hi then meetV a b else Sp.zero
end Go.Proofs.YtlnlaopokelggaaGreatDoor

namespace Go.Proofs.YtlnlaopokelggaaGreatDoor
open Go.Lib

def isDg (c : UInt8) : Prop := 48 ≤ c.toNat ∧ c.toNat ≤ 57
theorem dgN {k : Nat} (h : k < 10) : (UInt8.ofNat (48 + k)).toNat = 48 + k := by
  rw [UInt8.toNat_ofNat']
  omega
theorem dec_small {u : Nat} (h : u < 10) : decDigits u = [UInt8.ofNat (48 + u)] := by rw [decDigits, dif_pos h]
theorem dec_big {u : Nat} (h : ¬ u < 10) : decDigits u = decDigits (u / 10) ++ [UInt8.ofNat (48 + u % 10)] := by rw [decDigits, dif_neg h]
theorem dec_ne (u : Nat) : decDigits u ≠ [] := by
  by_cases h : u < 10
  · rw [dec_small h]; simp
  · rw [dec_big h]; simp
theorem dec_dg : ∀ (u : Nat), ∀ c ∈ decDigits u, isDg c := by
  intro u
  induction u using Nat.strongRecOn with
  | _ u ih =>
    intro c hc
    by_cases h : u < 10
    · rw [dec_small h] at hc
      rw [List.mem_singleton.1 hc]
      unfold isDg
      rw [dgN h]
      omega
    · rw [dec_big h] at hc
      rcases List.mem_append.1 hc with h1 | h1
      · exact ih (u / 10) (by omega) c h1
      · rw [List.mem_singleton.1 h1]
        unfold isDg
        rw [dgN (by omega)]
        omega
/-- what digits spell, behind a number -/
def valL (acc : Nat) (l : List UInt8) : Nat := l.foldl (fun a c => a * 10 + (c.toNat - 48)) acc
theorem valL_append (acc : Nat) (l r : List UInt8) : valL acc (l ++ r) = valL (valL acc l) r := List.foldl_append
theorem valL_dec : ∀ (u : Nat), valL 0 (decDigits u) = u := by
  intro u
  induction u using Nat.strongRecOn with
  | _ u ih =>
    by_cases h : u < 10
    · rw [dec_small h]
      show 0 * 10 + ((UInt8.ofNat (48 + u)).toNat - 48) = u
      rw [dgN h]
      omega
    · rw [dec_big h, valL_append, ih (u / 10) (by omega)]
      show u / 10 * 10 + ((UInt8.ofNat (48 + u % 10)).toNat - 48) = u
      rw [dgN (by omega)]
      omega
theorem valL_ge (acc : Nat) (l : List UInt8) : acc ≤ valL acc l := by
  induction l generalizing acc with
  | nil => exact Nat.le_refl _
  | cons c r ih =>
    have := ih (acc * 10 + (c.toNat - 48))
    show acc ≤ valL (acc * 10 + (c.toNat - 48)) r
    omega
theorem valL_lt (l : List UInt8) (h : ∀ c ∈ l, isDg c) (acc : Nat) : valL acc l < (acc + 1) * 10 ^ l.length := by
  induction l generalizing acc with
  | nil => show acc < (acc + 1) * 1; omega
  | cons c r ih =>
    have h1 := ih (fun x hx => h x (List.mem_cons_of_mem _ hx)) (acc * 10 + (c.toNat - 48))
    have h2 := h c (List.mem_cons_self ..)
    unfold isDg at h2
    show valL (acc * 10 + (c.toNat - 48)) r < _
    rw [List.length_cons, Nat.pow_succ, Nat.mul_comm (10 ^ r.length) 10, ← Nat.mul_assoc]
    exact Nat.lt_of_lt_of_le h1 (Nat.mul_le_mul_right _ (by omega))
/-- digits without superfluous zeros are the numeral of what they spell -/
theorem dec_valL (l : List UInt8) (h : ∀ c ∈ l, isDg c) (h1 : l ≠ []) (h0 : 1 < l.length → l.head?.map UInt8.toNat ≠ some 48) : decDigits (valL 0 l) = l := by
  have key : ∀ (r : List UInt8) (c : UInt8), (∀ x ∈ r, isDg x) → isDg c → c.toNat ≠ 48 → decDigits (valL 0 (c :: r)) = c :: r := by
    intro r
    induction hn : r.length generalizing r with
    | zero =>
      intro c _ hc _
      rw [List.length_eq_zero_iff.1 hn]
      unfold isDg at hc
      show decDigits (0 * 10 + (c.toNat - 48)) = [c]
      rw [dec_small (by omega)]
      congr 1
      apply UInt8.toNat_inj.1
      rw [dgN (by omega)]
      omega
    | succ n ih =>
      intro c hr hc hz
      obtain ⟨r', x, rfl⟩ : ∃ r' x, r = r' ++ [x] := ⟨r.dropLast, r.getLast (by intro e; simp [e] at hn), (List.dropLast_concat_getLast _).symm⟩
      have hl : r'.length = n := by simp at hn; omega
      have e := ih r' hl c (fun y hy => hr y (List.mem_append_left _ hy)) hc hz
      have hx := hr x (by simp)
      unfold isDg at hx hc
      have hv : 1 ≤ valL 0 (c :: r') := by
        have := valL_ge (0 * 10 + (c.toNat - 48)) r'
        show 1 ≤ valL (0 * 10 + (c.toNat - 48)) r'
        omega
      rw [← List.cons_append, valL_append]
      show decDigits (valL 0 (c :: r') * 10 + (x.toNat - 48)) = _
      generalize valL 0 (c :: r') = v at *
      rw [dec_big (by omega), show (v * 10 + (x.toNat - 48)) / 10 = v by omega, e]
      congr 2
      apply UInt8.toNat_inj.1
      rw [dgN (by omega)]
      omega
  cases l with
  | nil => exact absurd rfl h1
  | cons c r =>
    by_cases hz : c.toNat = 48
    · have : r = [] := by
        cases r with
        | nil => rfl
        | cons d r => exact absurd (by simp [hz]) (h0 (by simp))
      subst this
      show decDigits (0 * 10 + (c.toNat - 48)) = [c]
      rw [hz, dec_small (by omega)]
      congr 1
      apply UInt8.toNat_inj.1
      rw [hz]
      rfl
    · exact key r c (fun x hx => h x (List.mem_cons_of_mem _ hx)) (h c (List.mem_cons_self ..)) hz
theorem dec_head {u : Nat} (h : 10 ≤ u) : (decDigits u).head?.map UInt8.toNat ≠ some 48 := by
  have : ∀ v, 1 ≤ v → (decDigits v).head?.map UInt8.toNat ≠ some 48 := by
    intro v
    induction v using Nat.strongRecOn with
    | _ v ih =>
      intro hv
      by_cases h : v < 10
      · rw [dec_small h]
        show some (UInt8.ofNat (48 + v)).toNat ≠ some 48
        rw [dgN h]
        intro e
        injection e
        omega
      · rw [dec_big h, List.head?_append]
        have hi := ih (v / 10) (by omega) (by omega)
        cases hd : decDigits (v / 10) with
        | nil => exact absurd hd (dec_ne _)
        | cons c r => rw [hd] at hi; simpa using hi
  exact this u (by omega)
theorem dec_len1 {u : Nat} (h : 1 < (decDigits u).length) : 10 ≤ u := by
  by_cases h1 : u < 10
  · rw [dec_small h1] at h; simp at h
  · omega
/-- ParseUint over digits -/
theorem parse_digits (l : List UInt8) (h : ∀ c ∈ l, isDg c) (acc : Nat) (hv : valL acc l < 18446744073709551616) : parseUint10 acc l = .ok (valL acc l) := by
  induction l generalizing acc with
  | nil => rfl
  | cons c r ih =>
    have h2 := h c (List.mem_cons_self ..)
    unfold isDg at h2
    have e : valL acc (c :: r) = valL (acc * 10 + (c.toNat - 48)) r := rfl
    have hg := valL_ge (acc * 10 + (c.toNat - 48)) r
    rw [e] at hv ⊢
    have h3 := ih (fun x hx => h x (List.mem_cons_of_mem _ hx)) (acc * 10 + (c.toNat - 48)) hv
    simp only [parseUint10]
    rw [if_pos h2, if_neg (by omega), if_neg (by omega)]
    exact h3
theorem atoi_digits (l : List UInt8) (h : ∀ c ∈ l, isDg c) (h1 : l ≠ []) (hv : valL 0 l < 9223372036854775808) : atoiAll l = .ok (valL 0 l : Nat) := by
  cases l with
  | nil => exact absurd rfl h1
  | cons c r =>
    have h2 := h c (List.mem_cons_self ..)
    unfold isDg at h2
    rw [atoiAll_plain c r (by omega) (by omega)]
    unfold parseMag
    rw [if_neg (by simp), parse_digits (c :: r) h 0 (by omega)]
    simp only [signless]
    rw [if_neg (by omega)]
theorem itoa_nat (u : Nat) : itoa (u : Int) = decDigits u := by unfold itoa; rw [if_neg (by omega)]; rfl
theorem itoa_neg {n : Int} (h : n < 0) : itoa n = 45 :: decDigits n.natAbs := by unfold itoa; rw [if_pos h]
theorem itoa_pos {n : Int} (h : 0 ≤ n) : itoa n = decDigits n.toNat := by unfold itoa; rw [if_neg (by omega)]
theorem atoi_itoa {n : Int} (h0 : -9223372036854775808 ≤ n) (h1 : n ≤ 9223372036854775807) : atoiAll (itoa n) = .ok n := by
  by_cases h : n < 0
  · rw [itoa_neg h, atoiAll_minus]
    unfold parseMag
    rw [if_neg (dec_ne _), parse_digits _ (dec_dg _) 0 (by rw [valL_dec]; omega), valL_dec]
    simp only [signed]
    rw [if_neg (by omega)]
    congr 1
    omega
  · rw [itoa_pos (by omega), atoi_digits _ (dec_dg _) (dec_ne _) (by rw [valL_dec]; omega), valL_dec]
    congr 1
    omega
theorem itoa_mem {n : Int} {c : UInt8} (h : c ∈ itoa n) : isDg c ∨ c.toNat = 45 := by
  by_cases hn : n < 0
  · rw [itoa_neg hn] at h
    rcases List.mem_cons.1 h with rfl | h
    · exact .inr rfl
    · exact .inl (dec_dg _ _ h)
  · rw [itoa_pos (by omega)] at h
    exact .inl (dec_dg _ _ h)
theorem itoa_inj {m n : Int} (h : itoa m = itoa n) : m = n := by
  by_cases hm : m < 0
  · by_cases hn : n < 0
    · rw [itoa_neg hm, itoa_neg hn] at h
      injection h with _ h
      have := congrArg (valL 0) h
      rw [valL_dec, valL_dec] at this
      omega
    · rw [itoa_neg hm, itoa_pos (by omega)] at h
      have : (45 : UInt8) ∈ decDigits n.toNat := h ▸ List.mem_cons_self ..
      have := dec_dg _ _ this
      exact absurd this (by unfold isDg; decide)
  · by_cases hn : n < 0
    · rw [itoa_pos (by omega), itoa_neg hn] at h
      have : (45 : UInt8) ∈ decDigits m.toNat := h ▸ List.mem_cons_self ..
      have := dec_dg _ _ this
      exact absurd this (by unfold isDg; decide)
    · rw [itoa_pos (by omega), itoa_pos (by omega)] at h
      have := congrArg (valL 0) h
      rw [valL_dec, valL_dec] at this
      omega
/-- no instance where the first byte is not there -/
theorem index_no {c : UInt8} {t : List UInt8} : ∀ {s : List UInt8}, c ∉ s → index s (c :: t) = -1
  | [], _ => by simp [index]
  | b :: l, h => by
    have h1 : ¬ c = b := fun e => h (e ▸ List.mem_cons_self ..)
    have h2 := index_no (t := t) (fun h' => h (List.mem_cons_of_mem _ h') : c ∉ l)
    simp [index, List.isPrefixOf, h1, h2]
theorem index_at {c : UInt8} {t r : List UInt8} : ∀ {a : List UInt8}, c ∉ a → index (a ++ ((c :: t) ++ r)) (c :: t) = (a.length : Int)
  | [], _ => by
    have : (c :: t).isPrefixOf (c :: (t ++ r)) = true := by
      rw [List.isPrefixOf_iff_prefix]
      exact ⟨r, rfl⟩
    simp [index, this]
  | b :: l, h => by
    have h1 : ¬ c = b := fun e => h (e ▸ List.mem_cons_self ..)
    have h2 := index_at (t := t) (r := r) (fun h' => h (List.mem_cons_of_mem _ h') : c ∉ l)
    rw [List.cons_append]
    have h3 : (c :: t).isPrefixOf (b :: (l ++ ((c :: t) ++ r))) = false := by simp [List.isPrefixOf, h1]
    rw [index, h3, h2]
    have : ((l.length : Int) == -1) = false := by simp
    simp [this]
theorem cut_no {c : UInt8} {t s : List UInt8} (h : c ∉ s) : cut s (c :: t) = (s, [], false) := by
  unfold cut
  rw [index_no h, if_neg (by omega)]
theorem cut_at {c : UInt8} {t a r : List UInt8} (h : c ∉ a) : cut (a ++ ((c :: t) ++ r)) (c :: t) = (a, r, true) := by
  unfold cut
  rw [index_at h, if_pos (by omega)]
  simp
end Go.Proofs.YtlnlaopokelggaaGreatDoor

namespace Go.Proofs.YtlnlaopokelggaaGreatDoor
open Go Go.RowKit

abbrev strV (l : List UInt8) : Value := .string ⟨l.toArray⟩
theorem strV_data (s : ByteArray) : strV s.data.toList = .string s := by cases s; rfl
theorem strV_inj {a b : List UInt8} (h : strV a = strV b) : a = b := by
  injection h with h
  injection h with h
  simpa using h
theorem ba_append (a b : List UInt8) : (⟨a.toArray⟩ : ByteArray) ++ ⟨b.toArray⟩ = ⟨(a ++ b).toArray⟩ := by
  apply ByteArray.ext
  rw [ByteArray.data_append]
  simp
theorem tab_below {w w' : World} (h : Lib.TabIs Tryz.prog w "internal/strconv.uint64pow10" .u64 Lib.pow10Tab) (hb : Below w.heap.size w w') : Lib.TabIs Tryz.prog w' "internal/strconv.uint64pow10" .u64 Lib.pow10Tab := by
  unfold Lib.TabIs World.var? at *
  cases hg : (Tryz.prog).globalNamed "internal/strconv.uint64pow10" with
  | none => simp [hg] at h
  | some g =>
    simp only [hg, Option.bind_some] at h ⊢
    have hlt : g < w.heap.size := by
      rcases Nat.lt_or_ge g w.heap.size with h' | h'
      · exact h'
      · rw [Array.getElem?_eq_none h'] at h; simp at h
    rw [hb.block g hlt]
    exact h
def RetV (v : Value) (w : World) (e : Ending) (w' : World) : Prop := e = .returned v ∧ Below w.heap.size w w'
end Go.Proofs.YtlnlaopokelggaaGreatDoor

namespace Go.Proofs.YtlnlaopokelggaaGreatDoor
open Go Go.RowKit

/-- what the texts' functions read of the library's variables -/
def TxtW (w : World) : Prop := Lib.TabIs Tryz.prog w "internal/strconv.uint64pow10" .u64 Lib.pow10Tab ∧ (∃ m, w.cell? ⟨2, 0, none⟩ = some (.int .i64 m)) ∧
  (∃ ev, w.cell? ⟨5, 0, none⟩ = some ev ∧ (ev = .nilIface ∨ ∃ te pe, ev = .iface te pe)) ∧ (∃ ev, w.cell? ⟨6, 0, none⟩ = some ev ∧ (ev = .nilIface ∨ ∃ te pe, ev = .iface te pe))
theorem TxtW.below {w w' : World} (h : TxtW w) (hb : Below w.heap.size w w') : TxtW w' :=
  ⟨tab_below h.1 hb, by obtain ⟨m, hm⟩ := h.2.1; exact ⟨m, keeps hb _ _ _ hm⟩, by obtain ⟨ev, hm, p⟩ := h.2.2.1; exact ⟨ev, keeps hb _ _ _ hm, p⟩, by obtain ⟨ev, hm, p⟩ := h.2.2.2; exact ⟨ev, keeps hb _ _ _ hm, p⟩⟩
theorem itoaL (n : Int) (w : World) (h0 : -9223372036854775808 ≤ n) (h1 : n ≤ 9223372036854775807) (ht : TxtW w) : Calls Tryz.prog 97 #[.int .i64 n] w (RetV (strV (Lib.itoa n)) w) :=
  (Tryz.strconv_Itoa n h0 h1 w ht.1).mono fun e w' ⟨he, k, os, hw⟩ => ⟨he, by rw [hw]; exact Lib.below_grow _ _ (Nat.le_refl _) _ _⟩
/-- what Atoi returns, and whether without an error -/
def atV (l : List UInt8) : Int := match Lib.atoiAll l with | .ok v => v | .range => Lib.atoiSat l | _ => 0
def atB (l : List UInt8) : Bool := match Lib.atoiAll l with | .ok _ => true | _ => false
theorem at_ok {l : List UInt8} {v : Int} (h : Lib.atoiAll l = .ok v) : atV l = v ∧ atB l = true := by simp [atV, atB, h]
theorem atV_bd (l : List UInt8) : -9223372036854775808 ≤ atV l ∧ atV l ≤ 9223372036854775807 := by
  unfold atV
  split
  · rename_i v h; exact Lib.atoiAll_bounds h
  · exact Lib.atoiSat_bounds l
  · omega
def AtPost (v : Int) (b : Bool) (w : World) (e : Ending) (w' : World) : Prop := (∃ ev, e = .returned (.tuple #[.int .i64 v, ev]) ∧ (b = true → ev = .nilIface) ∧ (b = false → ∃ te pe, ev = .iface te pe)) ∧ Below w.heap.size w w'
theorem atoiL (l : List UInt8) (w : World) (hl : l.length ≤ 281474976710656) (ht : TxtW w) : Calls Tryz.prog 74 #[strV l] w (AtPost (atV l) (atB l) w) := by
  have hs : (⟨l.toArray⟩ : ByteArray).size = l.length := by simp [ByteArray.size]
  have hd : (⟨l.toArray⟩ : ByteArray).data.toList = l := by simp
  cases h : Lib.atoiAll l with
  | ok v =>
    refine (Tryz.strconv_Atoi_ok ⟨l.toArray⟩ (by rw [hs]; omega) v (by rw [hd]; exact h) w).mono fun e w' ⟨he, hw⟩ => ?_
    refine ⟨⟨.nilIface, ?_, fun _ => rfl, fun h' => ?_⟩, ?_⟩
    · rw [he, (at_ok h).1]
    · rw [(at_ok h).2] at h'; cases h'
    · rcases hw with rfl | ⟨t, rfl⟩
      · exact Below.refl _ _
      · exact Lib.bytesWorld_below _ _ _
  | range =>
    obtain ⟨ev, hv, hev⟩ := ht.2.2.2
    refine (Tryz.strconv_Atoi_range ⟨l.toArray⟩ (by rw [hs]; omega) (by rw [hd]; exact h) ev w hv hev).mono fun e w' ⟨N, he, _, _, hb⟩ => ?_
    exact ⟨⟨_, by rw [he, hd, show atV l = Lib.atoiSat l by simp [atV, h]], fun h' => by simp [atB, h] at h', fun _ => ⟨_, _, rfl⟩⟩, hb⟩
  | _ =>
    obtain ⟨ev, hv, hev⟩ := ht.2.2.1
    refine (Tryz.strconv_Atoi_syntax ⟨l.toArray⟩ (by rw [hs]; omega) (by rw [hd, h] <;> decide +kernel) ev w hv hev).mono fun e w' ⟨N, he, _, _, hb⟩ => ?_
    exact ⟨⟨_, by rw [he, show atV l = 0 by simp [atV, h]], fun h' => by simp [atB, h] at h', fun _ => ⟨_, _, rfl⟩⟩, hb⟩
end Go.Proofs.YtlnlaopokelggaaGreatDoor

namespace Go.Proofs.YtlnlaopokelggaaGreatDoor
open Go Go.RowKit

theorem cutLL (s sep : List UInt8) (w : World) (hl : s.length < 4294967281) (ht : TxtW w) :
    Calls Tryz.prog 73 #[strV s, strV sep] w (RetV (.tuple #[strV (Lib.cut s sep).1, strV (Lib.cut s sep).2.1, .bool (Lib.cut s sep).2.2]) w) := by
  obtain ⟨m, hm⟩ := ht.2.1
  have hs : (⟨s.toArray⟩ : ByteArray).size = s.length := by simp [ByteArray.size]
  refine (Tryz.strings_Cut ⟨s.toArray⟩ ⟨sep.toArray⟩ m w (by rw [hs]; exact hl) hm).mono fun e w' ⟨he, n, hw⟩ => ?_
  refine ⟨by rw [he], ?_⟩
  rw [hw]
  exact ⟨rfl, rfl, rfl, Nat.le_refl _, fun _ _ => rfl⟩
/-- the cut's parts are no longer than the whole -/
theorem cut_len (s sep : List UInt8) : (Lib.cut s sep).1.length ≤ s.length ∧ (Lib.cut s sep).2.1.length ≤ s.length := by
  unfold Lib.cut
  split
  · simp; omega
  · simp
end Go.Proofs.YtlnlaopokelggaaGreatDoor

namespace Go.Proofs.YtlnlaopokelggaaGreatDoor
open Go.Lib

/-- the text of a span -/
def txS (a : Sp) : List UInt8 := if a.lo = a.hi then itoa a.lo else itoa a.lo ++ 46 :: 46 :: itoa a.hi
def cutL (s : List UInt8) : List UInt8 := (cut s [46, 46]).1
def cutH (s : List UInt8) : List UInt8 := if (cut s [46, 46]).2.2 then (cut s [46, 46]).2.1 else (cut s [46, 46]).1
def psS (s : List UInt8) : Sp := ⟨atV (cutL s), atV (cutH s)⟩
def psB (s : List UInt8) : Bool := atB (cutL s) && atB (cutH s) && vB (psS s) && decide (txS (psS s) = s)
theorem dot_itoa (n : Int) : (46 : UInt8) ∉ itoa n := by
  intro h
  rcases itoa_mem h with h | h
  · exact absurd h (by unfold isDg; decide)
  · exact absurd h (by decide)
theorem vB_in {a : Sp} (h : vB a = true) : a.lo ≤ a.hi ∧ -72057594037927936 ≤ a.lo ∧ a.lo ≤ 72057594037927936 ∧ -72057594037927936 ≤ a.hi ∧ a.hi ≤ 72057594037927936 := by
  obtain ⟨h1, h2, h3⟩ := vB_iff.1 h
  omega
theorem ps_yes {a : Sp} (h : vB a = true) : psS (txS a) = a ∧ psB (txS a) = true := by
  obtain ⟨h0, h1, h2, h3, h4⟩ := vB_in h
  obtain ⟨n1, n2⟩ := at_ok (atoi_itoa (n := a.lo) (by omega) (by omega))
  obtain ⟨d1, d2⟩ := at_ok (atoi_itoa (n := a.hi) (by omega) (by omega))
  have e : cutL (txS a) = itoa a.lo ∧ cutH (txS a) = itoa a.hi := by
    unfold cutL cutH txS
    by_cases hd : a.lo = a.hi
    · rw [if_pos hd, cut_no (dot_itoa _)]
      exact ⟨rfl, by rw [hd]; rfl⟩
    · rw [if_neg hd]
      have := cut_at (t := [46]) (r := itoa a.hi) (dot_itoa a.lo)
      rw [show ([46, 46] : List UInt8) ++ itoa a.hi = 46 :: 46 :: itoa a.hi from rfl] at this
      rw [this]
      exact ⟨rfl, rfl⟩
  have ep : psS (txS a) = a := by unfold psS; rw [e.1, e.2, n1, d1]
  refine ⟨ep, ?_⟩
  unfold psB
  rw [ep, e.1, e.2, n2, d2, h]
  simp
theorem ps_inv {s : List UInt8} (h : psB s = true) : vB (psS s) = true ∧ txS (psS s) = s := by
  unfold psB at h
  simp only [Bool.and_eq_true, decide_eq_true_eq] at h
  exact ⟨h.1.2, h.2⟩
/-- the reference's reading of an int: its digits, none where a byte is no digit or the number is already greater than 2^57 -/
def dgB (c : UInt8) : Bool := decide (48 ≤ c.toNat ∧ c.toNat ≤ 57)
def rdD : Nat → List UInt8 → Option Nat
  | acc, [] => some acc
  | acc, c :: r => if dgB c = false ∨ 144115188075855872 < acc then none else rdD (acc * 10 + (c.toNat - 48)) r
def rdT (s : List UInt8) : List UInt8 := if s.head? = some 45 then s.tail else s
def rdV (s : List UInt8) : Int := match rdD 0 (rdT s) with | none => 0 | some n => if s.head? = some 45 then -(n : Int) else (n : Int)
def rdB (s : List UInt8) : Bool := match rdD 0 (rdT s) with | none => false | some _ => decide (rdV s ≤ 144115188075855872) && decide (-144115188075855872 ≤ rdV s) && decide (itoa (rdV s) = s)
theorem rdD_digits (l : List UInt8) (h : ∀ c ∈ l, isDg c) (acc : Nat) (hv : valL acc l ≤ 144115188075855872) : rdD acc l = some (valL acc l) := by
  induction l generalizing acc with
  | nil => rfl
  | cons c r ih =>
    have h2 : dgB c = true := decide_eq_true (h c (List.mem_cons_self ..))
    have hg := valL_ge (acc * 10 + (c.toNat - 48)) r
    have e : valL acc (c :: r) = valL (acc * 10 + (c.toNat - 48)) r := rfl
    rw [e] at hv ⊢
    rw [rdD, if_neg (by rw [h2]; simp; omega)]
    exact ih (fun x hx => h x (List.mem_cons_of_mem _ hx)) _ hv
theorem head_dec (u : Nat) : (decDigits u).head? ≠ some 45 := by
  intro e
  cases hd : decDigits u with
  | nil => exact absurd hd (dec_ne _)
  | cons c l =>
    rw [hd] at e
    simp at e
    subst e
    exact absurd (dec_dg u 45 (hd ▸ List.mem_cons_self ..)) (by unfold isDg; decide)
theorem rd_itoa {v : Int} (h1 : -144115188075855872 ≤ v) (h2 : v ≤ 144115188075855872) : rdV (itoa v) = v ∧ rdB (itoa v) = true := by
  have key : rdD 0 (rdT (itoa v)) = some v.natAbs ∧ ((itoa v).head? = some 45 ↔ v < 0) := by
    by_cases hn : v < 0
    · rw [itoa_neg hn]
      refine ⟨?_, by simp [hn]⟩
      have e : rdT (45 :: decDigits v.natAbs) = decDigits v.natAbs := by simp [rdT]
      rw [e, rdD_digits _ (dec_dg _) 0 (by rw [valL_dec]; omega), valL_dec]
    · rw [itoa_pos (by omega)]
      refine ⟨?_, ?_⟩
      · unfold rdT
        rw [if_neg (head_dec _), rdD_digits _ (dec_dg _) 0 (by rw [valL_dec]; omega), valL_dec]
        congr 1
        omega
      · exact ⟨fun h => absurd h (head_dec _), fun h => absurd h hn⟩
  have e : rdV (itoa v) = v := by
    unfold rdV
    rw [key.1]
    show (if (itoa v).head? = some 45 then -(v.natAbs : Int) else (v.natAbs : Int)) = v
    by_cases hn : v < 0
    · rw [if_pos (key.2.2 hn)]; omega
    · rw [if_neg (fun h => hn (key.2.1 h))]; omega
  refine ⟨e, ?_⟩
  unfold rdB
  rw [key.1, e]
  simp [h1, h2]
theorem rd_inv {s : List UInt8} (h : rdB s = true) : itoa (rdV s) = s ∧ -144115188075855872 ≤ rdV s ∧ rdV s ≤ 144115188075855872 := by
  unfold rdB at h
  split at h
  · cases h
  · simp only [Bool.and_eq_true, decide_eq_true_eq] at h
    exact ⟨h.2, h.1.2, h.1.1⟩
/-- the place of the first two dots -/
def dots : List UInt8 → Nat
  | [] => 0
  | c :: r => if c = 46 ∧ r.head? = some 46 then 0 else dots r + 1
def rsB (s : List UInt8) : Bool :=
  if dots s < s.length then rdB (s.take (dots s)) && rdB (s.drop (dots s + 2)) && decide (rdV (s.take (dots s)) < rdV (s.drop (dots s + 2))) && vB ⟨rdV (s.take (dots s)), rdV (s.drop (dots s + 2))⟩
  else rdB s && vB ⟨rdV s, rdV s⟩
def rsS (s : List UInt8) : Sp := if dots s < s.length then ⟨rdV (s.take (dots s)), rdV (s.drop (dots s + 2))⟩ else ⟨rdV s, rdV s⟩
theorem dots_no : ∀ {s : List UInt8}, (46 : UInt8) ∉ s → dots s = s.length
  | [], _ => rfl
  | c :: r, h => by
    have n1 : ¬ (c = 46 ∧ r.head? = some 46) := fun h' => h (by rw [h'.1]; exact List.mem_cons_self ..)
    rw [dots, if_neg n1, dots_no (fun h' => h (List.mem_cons_of_mem _ h')), List.length_cons]
theorem dots_at : ∀ {a r : List UInt8}, (46 : UInt8) ∉ a → dots (a ++ 46 :: 46 :: r) = a.length
  | [], r, _ => by simp [dots]
  | c :: a, r, h => by
    have n1 : ¬ (c = 46 ∧ (a ++ 46 :: 46 :: r).head? = some 46) := fun h' => h (by rw [h'.1]; exact List.mem_cons_self ..)
    rw [List.cons_append, dots, if_neg n1, dots_at (fun h' => h (List.mem_cons_of_mem _ h')), List.length_cons]
theorem dots_le : ∀ (s : List UInt8), dots s ≤ s.length
  | [] => Nat.le_refl _
  | c :: r => by
    rw [dots, List.length_cons]
    have := dots_le r
    split <;> omega
theorem dots_lt : ∀ {s : List UInt8}, dots s < s.length → s = s.take (dots s) ++ 46 :: 46 :: s.drop (dots s + 2)
  | [], h => absurd h (by simp)
  | c :: r, h => by
    rw [dots] at h ⊢
    by_cases hc : c = 46 ∧ r.head? = some 46
    · rw [if_pos hc]
      obtain ⟨rfl, hr⟩ := hc
      cases r with
      | nil => simp at hr
      | cons d r => simp at hr; subst hr; rfl
    · rw [if_neg hc] at h ⊢
      have := dots_lt (s := r) (by simpa using h)
      simp only [List.take_succ_cons, List.cons_append, List.drop_succ_cons]
      exact congrArg (c :: ·) this
theorem rs_yes {a : Sp} (h : vB a = true) : rsS (txS a) = a ∧ rsB (txS a) = true := by
  obtain ⟨h0, h1, h2, h3, h4⟩ := vB_in h
  obtain ⟨n1, n2⟩ := rd_itoa (v := a.lo) (by omega) (by omega)
  obtain ⟨d1, d2⟩ := rd_itoa (v := a.hi) (by omega) (by omega)
  by_cases hd : a.lo = a.hi
  · have e : txS a = itoa a.lo := by unfold txS; rw [if_pos hd]
    have en : ¬ dots (itoa a.lo) < (itoa a.lo).length := by rw [dots_no (dot_itoa _)]; omega
    have ea : (⟨a.lo, a.lo⟩ : Sp) = a := by cases a; simp at hd; subst hd; rfl
    rw [e]
    unfold rsS rsB
    rw [if_neg en, if_neg en, n1, n2, ea, h]
    exact ⟨rfl, rfl⟩
  · have e : txS a = itoa a.lo ++ 46 :: 46 :: itoa a.hi := by unfold txS; rw [if_neg hd]
    have ed := dots_at (r := itoa a.hi) (dot_itoa a.lo)
    have et : dots (txS a) < (txS a).length := by rw [e, ed, List.length_append]; simp
    have e1 : (txS a).take (dots (txS a)) = itoa a.lo := by rw [e, ed]; simp
    have e2 : (txS a).drop (dots (txS a) + 2) = itoa a.hi := by rw [e, ed]; simp [List.drop_append]
    unfold rsS rsB
    rw [if_pos et, if_pos et, e1, e2, n1, d1, n2, d2, h]
    exact ⟨rfl, by simp; omega⟩
theorem rs_inv {s : List UInt8} (h : rsB s = true) : vB (rsS s) = true ∧ txS (rsS s) = s := by
  unfold rsB at h
  unfold rsS
  by_cases hd : dots s < s.length
  · rw [if_pos hd] at h ⊢
    simp only [Bool.and_eq_true, decide_eq_true_eq] at h
    obtain ⟨⟨⟨h1, h2⟩, h3⟩, h4⟩ := h
    refine ⟨h4, ?_⟩
    unfold txS
    rw [if_neg (by simp; omega)]
    rw [(rd_inv h1).1, (rd_inv h2).1]
    exact (dots_lt hd).symm
  · rw [if_neg hd] at h ⊢
    simp only [Bool.and_eq_true] at h
    refine ⟨h.2, ?_⟩
    unfold txS
    rw [if_pos rfl]
    exact (rd_inv h.1).1
/-- the program reads a text exactly if the reference does, and the same span -/
theorem reads_same (s : List UInt8) : psB s = rsB s ∧ (rsB s = true → psS s = rsS s) := by
  have k1 : psB s = true → rsB s = true ∧ rsS s = psS s := fun h => by
    obtain ⟨v, t⟩ := ps_inv h
    have := rs_yes v
    rw [t] at this
    exact ⟨this.2, this.1⟩
  have k2 : rsB s = true → psB s = true := fun h => by
    obtain ⟨v, t⟩ := rs_inv h
    have := ps_yes v
    rw [t] at this
    exact this.2
  exact ⟨Bool.eq_iff_iff.2 ⟨fun h => (k1 h).1, k2⟩, fun h => (k1 (k2 h)).2.symm⟩
end Go.Proofs.YtlnlaopokelggaaGreatDoor

namespace Go.Proofs.YtlnlaopokelggaaGreatDoor
open Go Go.Lib

/-- a number by its text -/
def ctB (l : List UInt8) : Bool := psB l && decide ((psS l).lo = (psS l).hi)
def ctV (l : List UInt8) : Int := if psB l = true then (psS l).lo else 0
theorem ct_itoa {n : Int} (h0 : -72057594037927936 ≤ n) (h1 : n ≤ 72057594037927936) : ctB (itoa n) = true ∧ ctV (itoa n) = n := by
  have hv : vB ⟨n, n⟩ = true := vB_iff.2 ⟨Int.le_refl _, h0, h1⟩
  have e : txS ⟨n, n⟩ = itoa n := by unfold txS; rw [if_pos rfl]
  have := ps_yes hv
  rw [e] at this
  obtain ⟨h2, h3⟩ := this
  unfold ctB ctV
  rw [h2, h3]
  simp
theorem ct_back {l : List UInt8} (h : ctB l = true) : itoa (ctV l) = l ∧ -72057594037927936 ≤ ctV l ∧ ctV l ≤ 72057594037927936 := by
  unfold ctB at h
  simp only [Bool.and_eq_true, decide_eq_true_eq] at h
  obtain ⟨h1, h2⟩ := h
  obtain ⟨hv, ht⟩ := ps_inv h1
  have hb := vB_in hv
  unfold ctV
  rw [if_pos h1]
  refine ⟨?_, hb.2.1, hb.2.2.1⟩
  unfold txS at ht
  rw [if_pos h2] at ht
  exact ht
theorem ctV_bd (l : List UInt8) : -9223372036854775808 ≤ ctV l ∧ ctV l ≤ 9223372036854775807 := by
  unfold ctV
  split
  · rename_i h
    have := vB_in (ps_inv h).1
    omega
  · omega
end Go.Proofs.YtlnlaopokelggaaGreatDoor

namespace Go.Proofs.YtlnlaopokelggaaGreatDoor
open Go Go.Lib

/-- the program's number -/
def nuB (l : List UInt8) : Bool := atB l && decide (l.length ≤ 9) && decide (itoa (atV l) = l) && decide (0 ≤ atV l)
/-- the reference's Number -/
def rnB (l : List UInt8) : Bool := decide (1 ≤ l.length) && decide (l.length ≤ 9) && !(decide (1 < l.length) && decide (l.head? = some 48)) && l.all fun c => decide (48 ≤ c.toNat ∧ c.toNat ≤ 57)
theorem all_dg {l : List UInt8} : (l.all fun c => decide (48 ≤ c.toNat ∧ c.toNat ≤ 57)) = true ↔ ∀ c ∈ l, isDg c := by
  simp only [List.all_eq_true, decide_eq_true_eq]
  exact Iff.rfl
theorem head_48 (l : List UInt8) : l.head? = some 48 ↔ l.head?.map UInt8.toNat = some 48 := by
  cases l with
  | nil => simp
  | cons c r =>
    simp only [List.head?_cons, Option.map_some, Option.some.injEq]
    exact ⟨fun h => by rw [h]; rfl, fun h => UInt8.toNat_inj.1 (by rw [h]; rfl)⟩
theorem rn_facts {l : List UInt8} (h : rnB l = true) : (∀ c ∈ l, isDg c) ∧ l ≠ [] ∧ l.length ≤ 9 ∧ (1 < l.length → l.head?.map UInt8.toNat ≠ some 48) := by
  unfold rnB at h
  simp only [Bool.and_eq_true, decide_eq_true_eq, Bool.not_eq_true', Bool.and_eq_false_iff, decide_eq_false_iff_not] at h
  obtain ⟨⟨⟨h1, h2⟩, h3⟩, h4⟩ := h
  refine ⟨all_dg.1 h4, fun e => by rw [e] at h1; simp at h1, h2, fun h5 e => ?_⟩
  rcases h3 with h3 | h3
  · exact h3 h5
  · exact h3 ((head_48 l).2 e)
theorem rn_val {l : List UInt8} (h : rnB l = true) : valL 0 l < 1000000000 := by
  obtain ⟨h1, _, h3, _⟩ := rn_facts h
  have h4 := valL_lt l h1 0
  have h5 : 10 ^ l.length ≤ 10 ^ 9 := Nat.pow_le_pow_right (by decide) h3
  have : (10 : Nat) ^ 9 = 1000000000 := by decide
  omega
theorem num_same (l : List UInt8) : nuB l = rnB l ∧ (rnB l = true → atV l = (valL 0 l : Nat)) := by
  have back : rnB l = true → nuB l = true ∧ atV l = (valL 0 l : Nat) := fun h => by
    obtain ⟨h1, h2, h3, h4⟩ := rn_facts h
    have hv := rn_val h
    obtain ⟨a1, a2⟩ := at_ok (atoi_digits l h1 h2 (by omega))
    refine ⟨?_, a1⟩
    unfold nuB
    rw [a2, a1, itoa_nat, dec_valL l h1 h2 h4]
    simp [h3]
  refine ⟨Bool.eq_iff_iff.2 ⟨fun h => ?_, fun h => (back h).1⟩, fun h => (back h).2⟩
  unfold nuB at h
  simp only [Bool.and_eq_true, decide_eq_true_eq] at h
  obtain ⟨⟨⟨_, h2⟩, h3⟩, h4⟩ := h
  have e : l = decDigits (atV l).toNat := by rw [← itoa_pos h4]; exact h3.symm
  have hd : ∀ c ∈ l, isDg c := by rw [e]; exact dec_dg _
  have hn : l ≠ [] := by rw [e]; exact dec_ne _
  have hz : 1 < l.length → l.head?.map UInt8.toNat ≠ some 48 := fun h => by
    rw [e] at h ⊢
    exact dec_head (dec_len1 h)
  unfold rnB
  simp only [Bool.and_eq_true, decide_eq_true_eq, Bool.not_eq_true', Bool.and_eq_false_iff, decide_eq_false_iff_not]
  refine ⟨⟨⟨List.length_pos_iff.2 hn, h2⟩, ?_⟩, all_dg.2 hd⟩
  by_cases h5 : 1 < l.length
  · exact .inr fun h6 => hz h5 ((head_48 l).1 h6)
  · exact .inl h5
end Go.Proofs.YtlnlaopokelggaaGreatDoor

namespace Go.Proofs.YtlnlaopokelggaaGreatDoor
open Go.Lib

/-- the parts of a text between bytes c -/
def pts (c : UInt8) : List UInt8 → List (List UInt8)
  | [] => [[]]
  | b :: r => if b = c then [] :: pts c r else match pts c r with | [] => [[b]] | h :: t => (b :: h) :: t
theorem pts_ne (c : UInt8) : ∀ l, pts c l ≠ []
  | [] => by simp [pts]
  | b :: r => by
    rw [pts]
    split
    · simp
    · split <;> simp
theorem pts_no {c : UInt8} : ∀ {l : List UInt8}, c ∉ l → pts c l = [l]
  | [], _ => rfl
  | b :: r, h => by
    have h1 : ¬ b = c := fun e => h (e ▸ List.mem_cons_self ..)
    rw [pts, if_neg h1, pts_no (fun h' => h (List.mem_cons_of_mem _ h'))]
theorem pts_at {c : UInt8} : ∀ {a r : List UInt8}, c ∉ a → pts c (a ++ c :: r) = a :: pts c r
  | [], r, _ => by simp [pts]
  | b :: a, r, h => by
    have h1 : ¬ b = c := fun e => h (e ▸ List.mem_cons_self ..)
    rw [List.cons_append, pts, if_neg h1, pts_at (fun h' => h (List.mem_cons_of_mem _ h'))]
theorem split_at_first {c : UInt8} : ∀ {l : List UInt8}, c ∈ l → ∃ a r, l = a ++ c :: r ∧ c ∉ a
  | [], h => by simp at h
  | b :: l, h => by
    by_cases e : b = c
    · exact ⟨[], l, by rw [e]; rfl, by simp⟩
    · have h2 : c ∈ l := by
        rcases List.mem_cons.1 h with h | h
        · exact absurd h.symm e
        · exact h
      obtain ⟨a, r, rfl, ha⟩ := split_at_first h2
      exact ⟨b :: a, r, rfl, by simp [ha]; exact fun e' => e e'.symm⟩
theorem split_pts (c : UInt8) : ∀ (n : Nat) (l : List UInt8), l.length ≤ n → Lib.split l [c] = pts c l := by
  intro n
  induction n with
  | zero =>
    intro l h
    have : l = [] := List.eq_nil_of_length_eq_zero (by omega)
    subst this
    unfold Lib.split
    rw [count_miss (index_no (by simp))]
    rfl
  | succ n ih =>
    intro l h
    by_cases hc : c ∈ l
    · obtain ⟨a, r, rfl, ha⟩ := split_at_first hc
      have hi : index (a ++ c :: r) [c] = (a.length : Int) := index_at (t := []) (r := r) ha
      have hd : (a ++ c :: r).drop (a.length + 1) = r := by simp [List.drop_append]
      unfold Lib.split
      have hcount := count_hit (s := a ++ c :: r) (sub := [c]) (i := a.length) (by simp) hi
      rw [show a.length + [c].length = a.length + 1 from rfl, hd] at hcount
      rw [hcount, Nat.add_comm, splitK, if_neg (by rw [hi]; simp), hi]
      rw [pts_at ha]
      have e1 : (a ++ c :: r).take ((a.length : Int).toNat + 0) = a := by simp
      have e2 : (a ++ c :: r).drop ((a.length : Int).toNat + [c].length) = r := by
        show (a ++ c :: r).drop (a.length + 1) = r
        exact hd
      rw [e1, e2]
      have := ih r (by simp at h; omega)
      unfold Lib.split at this
      rw [this]
    · rw [pts_no hc]
      unfold Lib.split
      rw [count_miss (index_no hc)]
      rfl
end Go.Proofs.YtlnlaopokelggaaGreatDoor
