/- A record in the making: the variable's block, the row of depths that grows, blocks that are kept. -/
import Derived.Test.YtkbocphpnmpaeaaGgTot
import Derived.Deep.AppendLies
import Derived.RangeFuncOwn
namespace Go.Proofs.Ytkbocphpnmpaeaa
open Go.RowKit

theorem row_mono {w : World} {base base' : Nat} {e : TypeId} {size : Nat} {v : Value} {n : Nat} {xs : List Value} (h : w.ownsRow base e size v n xs) (hb : base' ≤ base) : w.ownsRow base' e size v n xs :=
  ⟨h.1, h.2.imp id fun ⟨g, cap, cur, h1, h2, h3⟩ => ⟨g, cap, cur, h1, Nat.le_trans hb h2, h3⟩⟩
abbrev Ser0 : Ser := ⟨0, 0, []⟩
/-- a record of the call's own, or an error -/
def SerPost (s : Ser) (er : Int) (w : World) (e : Ending) (w' : World) : Prop :=
  Below w.heap.size w w' ∧ ∃ a : SerA, e = .returned (.tuple #[s.val a, .int .i64 er]) ∧ SerSl w' s a
theorem SerSl.zero (w : World) : SerSl w Ser0 ⟨none, 0⟩ := ⟨IntSl.nil _ _, Nat.le_refl _, by decide, by decide⟩
theorem SerPost.err {er : Int} {w w' : World} (hb : Below w.heap.size w w') : SerPost Ser0 er w (.returned (.tuple #[.agg #[.int .i64 0, .int .i64 0, .slice none 0 0], .int .i64 er])) w' := ⟨hb, ⟨none, 0⟩, rfl, SerSl.zero _⟩
/-- a record in the making -/
structure Gat (w wr : World) (B2 o : Nat) (fr q : Int) (R : List (Nat × TypeId × Array Value)) (KK : List (Nat × Obj)) (v : Value) (n : Nat) (L : List Int) : Prop where
  own : Own w wr ((o, 24, #[.int .i64 fr, .int .i64 q, v]) :: R)
  row : wr.ownsRow B2 3 1 v n (L.map (Value.int .i64))
  keep : ∀ p ∈ KK, wr.heap[p.1]? = some p.2 ∧ p.1 < B2 ∧ p.1 ≠ o
  b2 : B2 ≤ wr.heap.size ∧ w.heap.size ≤ B2 ∧ w.heap.size ≤ o
  ty : ∀ x ∈ R, (3 : TypeId) ≠ x.2.1
  ne : ∀ x ∈ R, x.1 ≠ o
section
variable {w wr w' : World} {B2 o : Nat} {fr q : Int} {R : List (Nat × TypeId × Array Value)} {KK : List (Nat × Obj)} {v : Value} {n : Nat} {L : List Int}
theorem Gat.to (h : Gat w wr B2 o fr q R KK v n L) (hb : Below wr.heap.size wr w') : Gat w w' B2 o fr q R KK v n L :=
  ⟨h.own.to hb, row_below h.row hb, fun p hp => by
    obtain ⟨h1, h2⟩ := h.keep p hp
    exact ⟨(hb.block p.1 (Array.getElem?_eq_some_iff.1 h1).1).trans h1, h2⟩, ⟨Nat.le_trans h.b2.1 hb.size, h.b2.2⟩, h.ty, h.ne⟩
theorem Gat.alloc (h : Gat w wr B2 o fr q R KK v n L) (x : Obj) : Gat w (wr.alloc x) B2 o fr q R KK v n L := h.to ((Below.refl _ _).alloc (Nat.le_refl _) x)
theorem Gat.drew (h : Gat w wr B2 o fr q R KK v n L) : Gat w wr.drew B2 o fr q R KK v n L := h.to ((Below.refl wr.heap.size wr).drew)
theorem Gat.grown (h : Gat w wr B2 o fr q R KK v n L) (hg : wr.grownBy w' v.ownBlock) : Own w w' ((o, 24, #[.int .i64 fr, .int .i64 q, v]) :: R) :=
  h.own.grown (row_mono h.row h.b2.2.1) hg (by
    intro x hx
    rcases List.mem_cons.1 hx with rfl | hx
    · show (3 : TypeId) ≠ 24; decide
    · exact h.ty x hx)
theorem Gat.app {v4 : Value} {n4 : Nat} {L4 : List Int} (h : Gat w wr B2 o fr q R KK v n L) (hown : w'.ownsRow B2 3 1 v4 n4 (L4.map (Value.int .i64))) (hg : wr.grownBy w' v.ownBlock) : Gat w (w'.setCell ⟨o, 2, none⟩ v4) B2 o fr q R KK v4 n4 L4 := by
  have Y := h.grown hg
  have hsz : w'.heap.size ≤ (w'.setCell ⟨o, 2, none⟩ v4).heap.size := by simp [World.setCell]
  refine ⟨?_, ?_, fun p hp => ?_, ⟨Nat.le_trans h.b2.1 (Nat.le_trans hg.size hsz), h.b2.2⟩, h.ty, h.ne⟩
  · exact Y.set0 h.b2.2.2 h.ne 2 v4
  · exact row_set hown (Y.2 _ (List.mem_cons_self ..)) (show (3 : TypeId) ≠ 24 by decide) 2 v4
  · obtain ⟨h1, h2, h3⟩ := h.keep p hp
    refine ⟨?_, h2, h3⟩
    have e1 : w'.heap[p.1]? = wr.heap[p.1]? := hg.block p.1 (Array.getElem?_eq_some_iff.1 h1).1 (fun e => by
      have := (h.row.lt p.1 e.symm).1
      omega)
    have e2 : (w'.setCell ⟨o, 2, none⟩ v4).heap[p.1]? = w'.heap[p.1]? := Below.heap_setCell w' ⟨o, 2, none⟩ v4 p.1 (fun e => h3 (by first | exact e | exact e.symm))
    exact e2.trans (e1.trans h1)
/-- a block that holds no cells is turned, beyond the row's base -/
theorem Gat.turn {row : Option Nat} (h : Gat w wr B2 o fr q R KK v n L) (hg : wr.grownBy w' row) (hr : ∀ r, row = some r → B2 ≤ r ∧ ∃ x : Obj, wr.heap[r]? = some x ∧ x.isCells = false) : Gat w w' B2 o fr q R KK v n L := by
  have nb : ∀ (b : Nat) (t : TypeId) (cs : Array Value) (f : Nat × Nat), wr.heap[b]? = some (.cells cs t f) → w'.heap[b]? = some (.cells cs t f) := fun b t cs f hb =>
    (hg.block b (Array.getElem?_eq_some_iff.1 hb).1 (fun e => by
      obtain ⟨_, x, hx, hc⟩ := hr b e.symm
      rw [hb] at hx; cases hx; cases hc)).trans hb
  refine ⟨⟨h.own.1.grown hg h.own.1.size (fun k hk => Nat.le_trans h.b2.2.1 (hr k hk).1), fun x hx => nb _ _ _ _ (h.own.2 x hx)⟩, ?_, fun p hp => ?_, ⟨Nat.le_trans h.b2.1 hg.size, h.b2.2⟩, h.ty, h.ne⟩
  · refine h.row.kept hg ?_
    rcases h.row.2 with ⟨rfl, _⟩ | ⟨g, cap, cur, rfl, _, hgb, _⟩
    · exact .inl rfl
    · refine .inr fun e => ?_
      obtain ⟨_, x, hx, hc⟩ := hr g (by simpa [Value.ownBlock] using e.symm)
      rw [hgb] at hx; cases hx; cases hc
  · obtain ⟨h1, h2⟩ := h.keep p hp
    refine ⟨(hg.block p.1 (Array.getElem?_eq_some_iff.1 h1).1 (fun e => ?_)).trans h1, h2⟩
    have := (hr p.1 e.symm).1
    omega
/-- the record is done: it is stored as the result -/
theorem Gat.post {rb : Nat} {cs : Array Value} (h : Gat w wr B2 o fr q R KK v n L) (hrb : (rb, (24 : TypeId), cs) ∈ R) (hw : w.heap.size ≤ rb) (x y z : Value) (hL : ∀ u ∈ L, -9223372036854775808 ≤ u ∧ u ≤ 9223372036854775807) (hn : L.length ≤ 9223372036854775807)
    (hf : -9223372036854775808 ≤ fr ∧ fr ≤ 9223372036854775807) (hq : -9223372036854775808 ≤ q ∧ q ≤ 9223372036854775807) :
    SerPost ⟨fr, q, L⟩ 0 w (.returned (.tuple #[.agg #[.int .i64 fr, .int .i64 q, v], .int .i64 0])) (((wr.setCell ⟨rb, 0, none⟩ x).setCell ⟨rb, 1, none⟩ y).setCell ⟨rb, 2, none⟩ z) := by
  have hB : Blk wr rb 24 cs := h.own.2 _ (List.mem_cons_of_mem _ hrb)
  have ne : (3 : TypeId) ≠ 24 := by decide
  have row := row_set (row_set (row_set h.row hB ne 0 x) (hB.set_ 0 x) ne 1 y) ((hB.set_ 0 x).set_ 1 y) ne 2 z
  obtain ⟨A, c, e, hs⟩ := IntSl.of_row row hn (fun i hi => hL _ (List.getElem_mem hi))
  have hc : L.length ≤ c := by
    have hl := row.1
    rw [List.length_map] at hl
    rcases row.2 with ⟨e', h0⟩ | ⟨g, cap, cur, e', _, _, h4, _⟩
    · omega
    · rw [e] at e'
      injection e' with e1 e2 e3
      omega
  exact ⟨below_set (below_set (below_set h.own.1 hw x) hw y) hw z, ⟨A, c⟩, by rw [e], hs, hc, hf, hq⟩
end
end Go.Proofs.Ytkbocphpnmpaeaa
