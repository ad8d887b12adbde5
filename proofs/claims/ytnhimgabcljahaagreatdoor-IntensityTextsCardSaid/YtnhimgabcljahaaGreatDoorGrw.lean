/- A row in the making that a variable's block holds, beside blocks of the call's own and blocks that are kept. -/
import Derived.Test.YtnhimgabcljahaaGreatDoorOwn2
import Derived.Deep.AppendLies
import Derived.RangeFuncOwn
import Derived.RangeFuncWrites
namespace Go.Proofs.YtnhimgabcljahaaGreatDoor
open Go Go.RowKit

theorem row_monoG {w : World} {base base' : Nat} {e : TypeId} {size : Nat} {v : Value} {n : Nat} {xs : List Value} (h : w.ownsRow base e size v n xs) (hb : base' ≤ base) : w.ownsRow base' e size v n xs :=
  ⟨h.1, h.2.imp id fun ⟨g, cap, cur, h1, h2, h3⟩ => ⟨g, cap, cur, h1, Nat.le_trans hb h2, h3⟩⟩
theorem row_anyG {w : World} {base : Nat} {e : TypeId} {size n : Nat} {v : Value} {xs : List Value} (h : w.ownsRow base e size v n xs) : ∃ A c, v = .slice A n c ∧ n ≤ c := by
  rcases h.2 with ⟨rfl, h0⟩ | ⟨g, cap, _, rfl, _, _, h2, _⟩
  · subst h0; exact ⟨none, 0, rfl, Nat.le_refl _⟩
  · exact ⟨_, cap, rfl, h2⟩
/-- the variable's block o holds the slice v, whose row grows beyond B2 -/
structure Grw (e tv : TypeId) (sz : Nat) (w wr : World) (B2 o : Nat) (R : List (Nat × TypeId × Array Value)) (v : Value) (n : Nat) (xs : List Value) : Prop where
  own : Own w wr ((o, tv, #[v]) :: R)
  row : wr.ownsRow B2 e sz v n xs
  b2 : B2 ≤ wr.heap.size ∧ w.heap.size ≤ B2 ∧ w.heap.size ≤ o
  lt : o < B2 ∧ ∀ x ∈ R, x.1 < B2
  ty : e ≠ tv ∧ ∀ x ∈ R, e ≠ x.2.1
  ne : ∀ x ∈ R, x.1 ≠ o
section
variable {e tv : TypeId} {sz : Nat} {w wr w' : World} {B2 o : Nat} {R : List (Nat × TypeId × Array Value)} {v : Value} {n : Nat} {xs : List Value}
theorem Grw.to (h : Grw e tv sz w wr B2 o R v n xs) (hb : Below wr.heap.size wr w') : Grw e tv sz w w' B2 o R v n xs :=
  ⟨h.own.to hb, row_below h.row hb, ⟨Nat.le_trans h.b2.1 hb.size, h.b2.2⟩, h.lt, h.ty, h.ne⟩
theorem Grw.alloc (h : Grw e tv sz w wr B2 o R v n xs) (x : Obj) : Grw e tv sz w (wr.alloc x) B2 o R v n xs := h.to ((Below.refl _ _).alloc (Nat.le_refl _) x)
theorem Grw.drew (h : Grw e tv sz w wr B2 o R v n xs) : Grw e tv sz w wr.drew B2 o R v n xs := h.to ((Below.refl wr.heap.size wr).drew)
theorem Grw.grown (h : Grw e tv sz w wr B2 o R v n xs) (hg : wr.grownBy w' v.ownBlock) : Own w w' ((o, tv, #[v]) :: R) :=
  h.own.grown (row_monoG h.row h.b2.2.1) hg (by
    intro x hx
    rcases List.mem_cons.1 hx with rfl | hx
    · exact h.ty.1
    · exact h.ty.2 x hx)
/-- the slice is appended to, and stored in its block -/
theorem Grw.app {v4 : Value} {n4 : Nat} {xs4 : List Value} (h : Grw e tv sz w wr B2 o R v n xs) (hown : w'.ownsRow B2 e sz v4 n4 xs4) (hg : wr.grownBy w' v.ownBlock) : Grw e tv sz w (w'.setCell ⟨o, 0, none⟩ v4) B2 o R v4 n4 xs4 := by
  have Y := h.grown hg
  have hsz : w'.heap.size ≤ (w'.setCell ⟨o, 0, none⟩ v4).heap.size := by simp [World.setCell]
  refine ⟨?_, ?_, ⟨Nat.le_trans h.b2.1 (Nat.le_trans hg.size hsz), h.b2.2⟩, h.lt, h.ty, h.ne⟩
  · exact Y.set0 h.b2.2.2 h.ne 0 v4
  · exact row_set hown (Y.2 _ (List.mem_cons_self ..)) h.ty.1 0 v4
/-- what lay below the row's base, but for the variable's block, lies as it lay behind an append -/
theorem Grw.kept {v4 : Value} (h : Grw e tv sz w wr B2 o R v n xs) (hg : wr.grownBy w' v.ownBlock) {k : Nat} (hk : k < B2) (hne : k ≠ o) : (w'.setCell ⟨o, 0, none⟩ v4).heap[k]? = wr.heap[k]? := by
  have e1 : w'.heap[k]? = wr.heap[k]? := hg.block k (Nat.lt_of_lt_of_le hk h.b2.1) (fun e => by
    have := (h.row.lt k e.symm).1
    omega)
  exact (Below.heap_setCell w' ⟨o, 0, none⟩ v4 k hne).trans e1
/-- what is no cells lies as it lay behind an append -/
theorem Grw.others {v4 : Value} (h : Grw e tv sz w wr B2 o R v n xs) (hg : wr.grownBy w' v.ownBlock) : KeepsOthers wr (w'.setCell ⟨o, 0, none⟩ v4) :=
  (KeepsOthers.of_grownBy hg fun j x ej hj => by
    rcases h.row.2 with ⟨rfl, _⟩ | ⟨g, cap, cur, rfl, _, hgb, _⟩
    · simp [Value.ownBlock] at ej
    · obtain rfl : g = j := by simpa [Value.ownBlock] using ej
      rw [hgb] at hj; cases hj; rfl).trans (KeepsOthers.setCell _ _ _)
/-- one block of R is turned -/
theorem Grw.turnR {b : Nat} {t : TypeId} {cs cs' : Array Value} {R1 R2 : List (Nat × TypeId × Array Value)} (h : Grw e tv sz w wr B2 o (R1 ++ (b, t, cs) :: R2) v n xs) (hb : w.heap.size ≤ b) (hn : ∀ x ∈ R1 ++ R2, x.1 ≠ b) (i : Nat) (u : Value) (hcs : cs' = cs.setIfInBounds i u) :
    Grw e tv sz w (wr.setCell ⟨b, i, none⟩ u) B2 o (R1 ++ (b, t, cs') :: R2) v n xs := by
  subst hcs
  have hB : Blk wr b t cs := h.own.2 (b, t, cs) (by simp)
  have hbo : b ≠ o := h.ne (b, t, cs) (by simp)
  refine ⟨⟨below_set h.own.1 hb u, fun x hx => ?_⟩, row_set h.row hB (h.ty.2 (b, t, cs) (by simp)) i u, ⟨by have := h.b2.1; simp [World.setCell]; exact this, h.b2.2⟩, ⟨h.lt.1, fun x hx => ?_⟩, ⟨h.ty.1, fun x hx => ?_⟩, fun x hx => ?_⟩
  · rcases List.mem_cons.1 hx with rfl | hx
    · exact (h.own.2 _ (List.mem_cons_self ..)).off hbo.symm u
    · rcases List.mem_append.1 hx with hx | hx
      · exact (h.own.2 x (by simp [hx])).off (hn x (by simp [hx])) u
      · rcases List.mem_cons.1 hx with rfl | hx
        · exact hB.set_ i u
        · exact (h.own.2 x (by simp [hx])).off (hn x (by simp [hx])) u
  · rcases List.mem_append.1 hx with hx | hx
    · exact h.lt.2 x (by simp [hx])
    · rcases List.mem_cons.1 hx with rfl | hx
      · exact h.lt.2 (b, t, cs) (by simp)
      · exact h.lt.2 x (by simp [hx])
  · rcases List.mem_append.1 hx with hx | hx
    · exact h.ty.2 x (by simp [hx])
    · rcases List.mem_cons.1 hx with rfl | hx
      · exact h.ty.2 (b, t, cs) (by simp)
      · exact h.ty.2 x (by simp [hx])
  · rcases List.mem_append.1 hx with hx | hx
    · exact h.ne x (by simp [hx])
    · rcases List.mem_cons.1 hx with rfl | hx
      · exact h.ne (b, t, cs) (by simp)
      · exact h.ne x (by simp [hx])
/-- a block that holds no cells is turned, beyond the row's base -/
theorem Grw.turn {row : Option Nat} (h : Grw e tv sz w wr B2 o R v n xs) (hg : wr.grownBy w' row) (hr : ∀ r, row = some r → B2 ≤ r ∧ ∃ x : Obj, wr.heap[r]? = some x ∧ x.isCells = false) : Grw e tv sz w w' B2 o R v n xs := by
  have nb : ∀ (b : Nat) (t : TypeId) (cs : Array Value) (f : Nat × Nat), wr.heap[b]? = some (.cells cs t f) → w'.heap[b]? = some (.cells cs t f) := fun b t cs f hb =>
    (hg.block b (Array.getElem?_eq_some_iff.1 hb).1 (fun e => by
      obtain ⟨_, x, hx, hc⟩ := hr b e.symm
      rw [hb] at hx; cases hx; cases hc)).trans hb
  refine ⟨⟨h.own.1.grown hg h.own.1.size (fun k hk => Nat.le_trans h.b2.2.1 (hr k hk).1), fun x hx => nb _ _ _ _ (h.own.2 x hx)⟩, ?_, ⟨Nat.le_trans h.b2.1 hg.size, h.b2.2⟩, h.lt, h.ty, h.ne⟩
  refine h.row.kept hg ?_
  rcases h.row.2 with ⟨rfl, _⟩ | ⟨g, cap, cur, rfl, _, hgb, _⟩
  · exact .inl rfl
  · refine .inr fun e => ?_
    obtain ⟨_, x, hx, hc⟩ := hr g (by simpa [Value.ownBlock] using e.symm)
    rw [hgb] at hx; cases hx; cases hc
/-- a block that is not ours, below the row's base, is turned (a box of somebody else's) -/
theorem Grw.box {b : Nat} (h : Grw e tv sz w wr B2 o R v n xs) (hg : wr.grownBy w' (some b)) (hb : w.heap.size ≤ b) (hB : b < B2) (ho : b ≠ o) (hR : ∀ x ∈ R, x.1 ≠ b) : Grw e tv sz w w' B2 o R v n xs := by
  refine ⟨⟨h.own.1.grown hg h.own.1.size (fun k hk => by injection hk with hk; omega), fun x hx => ?_⟩, ?_, ⟨Nat.le_trans h.b2.1 hg.size, h.b2.2⟩, h.lt, h.ty, h.ne⟩
  · have hx' := h.own.2 x hx
    refine (hg.block x.1 hx'.lt (fun e => ?_)).trans hx'
    injection e with e
    rcases List.mem_cons.1 hx with rfl | hx
    · exact ho e.symm
    · exact hR x hx e
  · refine h.row.kept hg ?_
    rcases h.row.2 with ⟨rfl, _⟩ | ⟨g, cap, cur, rfl, hgB, _⟩
    · exact .inl rfl
    · refine .inr fun e => ?_
      have : g = b := by simpa [Value.ownBlock] using e
      omega
end
end Go.Proofs.YtnhimgabcljahaaGreatDoor
