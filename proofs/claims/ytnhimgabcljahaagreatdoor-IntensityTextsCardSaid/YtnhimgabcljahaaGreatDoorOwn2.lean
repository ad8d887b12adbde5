/- Rows of the call's own that grow by append, beside blocks of the call's own; slices of integers that read as a list. -/
import Derived.Test.YtnhimgabcljahaaGreatDoorOwn
import Derived.Deep.RegionHeld3
namespace Go.Proofs.YtnhimgabcljahaaGreatDoor
open Go.RowKit

theorem grown_of_below {w w' : World} (h : Below w.heap.size w w') (row : Option Nat) : w.grownBy w' row := ⟨h.os, h.tape, h.output, h.size, fun i hi _ => h.block i hi⟩
theorem row_below {w w' : World} {base : Nat} {e : TypeId} {size n : Nat} {v : Value} {xs : List Value} (h : w.ownsRow base e size v n xs) (hb : Below w.heap.size w w') : w'.ownsRow base e size v n xs :=
  h.kept (grown_of_below hb none) (by cases v.ownBlock <;> simp)
theorem row_drew {w : World} {base : Nat} {e : TypeId} {size n : Nat} {v : Value} {xs : List Value} (h : w.ownsRow base e size v n xs) : w.drew.ownsRow base e size v n xs := h
theorem row_set {w : World} {base g : Nat} {e t : TypeId} {size n : Nat} {v : Value} {xs : List Value} {cs : Array Value} (h : w.ownsRow base e size v n xs) (hB : Blk w g t cs) (hne : e ≠ t) (i : Nat) (u : Value) :
    (w.setCell ⟨g, i, none⟩ u).ownsRow base e size v n xs := by
  have hn := own_blk_ne h hB hne
  refine h.kept (row := some g) ⟨rfl, rfl, rfl, by simp [World.setCell], fun k hk hne => ?_⟩ (.inr hn)
  exact Below.heap_setCell w ⟨g, i, none⟩ u k (fun e => hne (by rw [e]))
theorem Own.grown {w W W' : World} {L : List (Nat × TypeId × Array Value)} {e : TypeId} {size n : Nat} {v : Value} {xs : List Value} (h : Own w W L) (hrow : W.ownsRow w.heap.size e size v n xs) (hg : W.grownBy W' v.ownBlock)
    (hty : ∀ x ∈ L, e ≠ x.2.1) : Own w W' L :=
  ⟨h.1.grown hg h.1.size (fun k hk => (hrow.lt k hk).1), fun x hx => (h.2 x hx).grown hg (fun e' => own_blk_ne hrow (h.2 x hx) (hty x hx) e'.symm)⟩

/-- a slice of integers that reads as a list -/
def IntSl (w : World) (A : Option Addr) (l : List Int) : Prop :=
  (l.length ≤ 9223372036854775807 ∧ ∀ i (h : i < l.length), -9223372036854775808 ≤ l[i] ∧ l[i] ≤ 9223372036854775807) ∧ (0 < l.length → ∃ b off, A = some ⟨b, off, none⟩ ∧ b < w.heap.size ∧ ∀ i (h : i < l.length), w.cell? ⟨b, off + i, none⟩ = some (.int .i64 l[i]))
theorem IntSl.below {w w' : World} {A : Option Addr} {l : List Int} (h : IntSl w A l) (hb : Below w.heap.size w w') : IntSl w' A l :=
  ⟨h.1, fun hl => by obtain ⟨b, off, e, hlt, hat⟩ := h.2 hl; exact ⟨b, off, e, Nat.lt_of_lt_of_le hlt hb.size, fun i hi => (hb.cell (p := ⟨b, off + i, none⟩) hlt).trans (hat i hi)⟩⟩
theorem IntSl.nil (w : World) (A : Option Addr) : IntSl w A [] := ⟨⟨by simp, fun i h => by simp at h⟩, fun h => by simp at h⟩
/-- a row of the call's own that holds integers, read as a slice -/
theorem IntSl.of_row {w : World} {base : Nat} {e : TypeId} {v : Value} {n : Nat} {l : List Int} (h : w.ownsRow base e 1 v n (l.map (Value.int .i64)))
    (hb : l.length ≤ 9223372036854775807) (hr : ∀ i (h : i < l.length), -9223372036854775808 ≤ l[i] ∧ l[i] ≤ 9223372036854775807) : ∃ A c, v = .slice A l.length c ∧ IntSl w A l := by
  have hn : l.length = n := by have := h.1; simpa using this
  rcases h.2 with ⟨rfl, h0⟩ | ⟨g, cap, cur, rfl, hg, hcell, hnc, _, hsz, htake⟩
  · rw [h0] at hn
    have : l = [] := List.eq_nil_of_length_eq_zero hn
    subst this
    exact ⟨none, 0, rfl, IntSl.nil w none⟩
  · subst hn
    refine ⟨some ⟨g, 0, none⟩, cap, rfl, ⟨hb, hr⟩, fun _ => ⟨g, 0, rfl, (Array.getElem?_eq_some_iff.1 hcell).1, fun i hi => ?_⟩⟩
    have hc := h.cells (g := g) rfl i (.int .i64 l[i]) (by simp [hi])
    have e : (⟨g, 0, none⟩ : Addr).add i = ⟨g, 0 + i, none⟩ := by unfold Addr.add; split <;> simp_all
    rw [e] at hc
    exact hc
end Go.Proofs.YtnhimgabcljahaaGreatDoor
