/- Parts of one proof, joined: The program's Total and Mass of records: what each returns; nothing that was there is turned. A record in the making: the variable's block, the row of depths that grows, blocks that are kept. slices.Chunk of integers whose number is a multiple of the chunks' size: the iterator hands each chunk on, in order. slices.Chunk of integers, the last chunk as long as what is left: the iterator hands each chunk on, in order. strings.Builder as a call's own: what is written so far, and that the writers leave the rest as it was. The text of a record in the making: the builder in a range over chunks; the rows of a text by chunks. The program's years and months: leap years, the days of a month, the days before a year; nothing that was there is turned. Regions that draw their order, only read, and call functions that leave what was there as it is: one walk in the order of the text, in the class of the worlds in which the call's own blocks are whole. sort.Search over the years of the dates: the first year that begins later; nothing that was there is turned. -/
import Derived.Test.YtkjndkeboeieoaaGreatDoorPkGaugeBack3
import Derived.Deep.AppendLies
import Derived.RangeFuncOwn
import Derived.RangeFuncNested
import Derived.RangeFuncBound
import Derived.RangeFuncCalls
import Derived.RangeFuncLeaves
import Derived.RangeFuncBox
import Derived.Shelf.Abstract
import Derived.WalkKit
import Derived.OwnWalkIn
import Derived.TacticsInMore
import Derived.LoopNIn
import Derived.LoopIn
import Derived.Shelf.Strings.BuilderK
import Derived.Test.YtkjndkeboeieoaaGreatDoorProg
import Derived.Test.YtkjndkeboeieoaaGreatDoorPkGaugeBack1
import Derived.Lib.OthersKept
import Derived.Test.YtkjndkeboeieoaaGreatDoorPkGaugeBack2
import Derived.Deep.QuietTactic
import Derived.BigQuiet
namespace Go.Proofs.YtkjndkeboeieoaaGreatDoor
open Go.RowKit

theorem int_info17 : (Tryz.prog.info? 3).map (fun i => (i.zero, i.size, i.bytes)) = some (some (.int .i64 0), 1, 8) := by kernel_rfl
theorem row_form {w : World} {base : Nat} {e : TypeId} {size n : Nat} {v : Value} {xs : List Value} (h : w.ownsRow base e size v n xs) (hn : 0 < n) : ∃ g cap, v = .slice (some ⟨g, 0, none⟩) n cap := by
  rcases h.2 with ⟨_, h0⟩ | ⟨g, cap, _, rfl, _⟩
  · omega
  · exact ⟨g, cap, rfl⟩
set_option maxHeartbeats 1000000 in
theorem total_bad (s : Ser) (a : SerA) (w : World) (hs : SerSl w s a) (hv : vS s = false) : Calls Tryz.prog 14 #[s.val a] w (GrPost 0 0 1 w) := by
  have V := hide (fun W (h : SerSl W s a) => gvalid_any s a W h)
  rw [hv] at V
  have HS := hide hs
  have X := (Own.start w).alloc (s.cells a) 24
  clear hs hv
  have hr := X.r1
  go_enter Tryz.func14, Tryz.ntmps14
  go_wp2_with fail
  refine (V.out _ (HS.out.below X.1)).mono ?_
  rintro e w1 ⟨rfl, hb⟩
  replace X := X.to hb
  clear hb hr
  go_wp2
  go_ret3
  exact GrPost.mk rfl rfl rfl X.1
set_option maxRecDepth 100000 in
set_option maxHeartbeats 4000000 in
theorem total_in (s : Ser) (a : SerA) (w : World) (hs : SerSl w s a) (hv : vS s = true) : Calls Tryz.prog 14 #[s.val a] w (GrPost (ps s.ds s.ds.length) (ms s.ds s.ds.length) 0 w) := by
  obtain ⟨fr, st, l⟩ := s
  obtain ⟨A, c⟩ := a
  have V := hide (fun W (h : SerSl W ⟨fr, st, l⟩ ⟨A, c⟩) => gvalid_any ⟨fr, st, l⟩ ⟨A, c⟩ W h)
  rw [hv] at V
  have v := vS_iff.1 hv
  have le : l.length ≤ 10000 := v.le
  have HV := hide v.ok
  have PB := hide (fun i hi => ps_le (fun i hi => (v.ok i hi).2) i hi)
  clear hv v
  have HS := hide hs
  have X := (Own.start w).alloc #[.int .i64 fr, .int .i64 st, .slice A l.length c] 24
  clear hs
  have hr := X.r1
  show Calls Tryz.prog 14 #[.agg #[.int .i64 fr, .int .i64 st, .slice A l.length c]] w (GrPost (ps l l.length) (ms l l.length) 0 w)
  go_enter Tryz.func14, Tryz.ntmps14
  go_wp2_with fail
  refine (V.out _ (HS.out.below X.1)).mono ?_
  rintro e w1 ⟨rfl, hb⟩
  replace X := X.to hb
  have HI := hide (HS.out.below X.1).1
  clear hb hr HS V
  have hr := X.r1
  go_wp2
  go_loop [5, 6, 8, 15] (fun v5 v6 v8 v15 => ∃ i : Nat, i ≤ l.length ∧ v15 = .int .i64 (i : Int) ∧ v5 = .int .i64 (ps l i) ∧ v6 = .int .i64 (ms l i)) (fun _ _ _ v15 => l.length - (intOf v15).toNat)
  case atStart => exact ⟨0, by omega, rfl, rfl, rfl⟩
  case round =>
    obtain ⟨i, hi, rfl, rfl, rfl⟩ := hrel
    by_cases hlt : i < l.length
    · obtain ⟨b, off, rfl, hbl, hat⟩ := HI.out.atg (show 0 < l.length by omega)
      have c0 := hat i hlt
      have D1 := hide (fun W => gdepth_any (l.getD i 0) W)
      obtain ⟨x, hx⟩ : ∃ x, x = max (l.getD i 0) 0 := ⟨_, rfl⟩
      have E1 : Hid (ps l (i + 1) = ps l i + x) := hide (by rw [hx]; rfl)
      have M1 : Hid (ms l (i + 1) = ms l i + if l.getD i 0 = -1 then 1 else 0) := hide rfl
      have mb := ms_bd l i
      have p0 := PB.out i (by show i ≤ l.length; omega)
      have p1 := ps_nonneg l i
      have v0 := HV.out i hlt
      have v0' : l.getD i 0 ≤ 4194304 := v0.2
      have x0 : 0 ≤ x ∧ x ≤ 4194304 := by rw [hx]; omega
      rw [← hx] at D1
      have s1 := IntWalk.i64_in (ps l i + x) (by omega)
      have s2 := IntWalk.i64_in (ms l i + 1) (by omega)
      clear hat hx p0 p1 x0 v0 v0' mb
      generalize l.getD i 0 = d at *
      generalize ps l i = P at *
      generalize ms l i = M at *
      by_cases q : d = -1
      · have q1 : (d == -1) = true := by simpa using q
        have E2 : Hid (ms l (i + 1) = M + 1) := hide (by rw [M1.out, if_pos q])
        clear q M1
        go_wp2_with fail
        refine (D1.out _).mono ?_
        rintro e w2 ⟨rfl, rfl⟩
        go_wp2
        go_round
        case rel => exact ⟨i + 1, by omega, by go_num, by rw [E1.out], by rw [E2.out]⟩
        case measure => simp [intOf]; omega
      · have q1 : (d == -1) = false := by simpa using q
        have E2 : Hid (ms l (i + 1) = M) := hide (by rw [M1.out, if_neg q, Int.add_zero])
        clear q M1
        go_wp2_with fail
        refine (D1.out _).mono ?_
        rintro e w2 ⟨rfl, rfl⟩
        go_wp2
        go_round
        case rel => exact ⟨i + 1, by omega, by go_num, by rw [E1.out], by rw [E2.out]⟩
        case measure => simp [intOf]; omega
    · have e : i = l.length := by omega
      subst e
      go_wp2
      go_ret3
      exact GrPost.mk rfl rfl rfl X.1
/-- a list of integers of the call's own, or an error -/
def RowPost (l : List Int) (er : Int) (w : World) (e : Ending) (w' : World) : Prop :=
  Below w.heap.size w w' ∧ ∃ (A : Option Addr) (cap : Nat), e = .returned (.tuple #[.slice A l.length cap, .int .i64 er]) ∧ IntSl w' A l ∧ l.length ≤ cap
theorem RowPost.err {er : Int} {w w' : World} (hb : Below w.heap.size w w') : RowPost [] er w (.returned (.tuple #[.slice none 0 0, .int .i64 er])) w' := ⟨hb, none, 0, rfl, IntSl.nil _ _, Nat.le_refl _⟩
end Go.Proofs.YtkjndkeboeieoaaGreatDoor

namespace Go.Proofs.YtkjndkeboeieoaaGreatDoor
open Go.RowKit

theorem row_mono {w : World} {base base' : Nat} {e : TypeId} {size : Nat} {v : Value} {n : Nat} {xs : List Value} (h : w.ownsRow base e size v n xs) (hb : base' ≤ base) : w.ownsRow base' e size v n xs :=
  ⟨h.1, h.2.imp id fun ⟨g, cap, cur, h1, h2, h3⟩ => ⟨g, cap, cur, h1, Nat.le_trans hb h2, h3⟩⟩
abbrev Ser0 : Ser := ⟨0, 0, []⟩
/-- a record of the call's own, or an error -/
def SerPost (s : Ser) (er : Int) (w : World) (e : Ending) (w' : World) : Prop :=
  Below w.heap.size w w' ∧ ∃ a : SerA, e = .returned (.tuple #[s.val a, .int .i64 er]) ∧ SerSl w' s a
theorem SerSl.zero (w : World) : SerSl w Ser0 ⟨none, 0⟩ := ⟨IntSl.nil _ _, Nat.le_refl _, by decide, by decide⟩
theorem SerPost.err {er : Int} {w w' : World} (hb : Below w.heap.size w w') : SerPost Ser0 er w (.returned (.tuple #[.agg #[.int .i64 0, .int .i64 0, .slice none 0 0], .int .i64 er])) w' := ⟨hb, ⟨none, 0⟩, rfl, SerSl.zero _⟩
/-- a record in the making -/
structure Gat (w wr : World) (B2 o : Nat) (fr q : Int) (R : List (Nat × TypeId × Array Value)) (KK : List (Nat × Obj)) (v : Value) (n : Nat) (L : List Int) : Prop where
  own : Own w wr ((o, 24, #[.int .i64 fr, .int .i64 q, v]) :: R)
  row : wr.ownsRow B2 3 1 v n (L.map (Value.int .i64))
  keep : ∀ p ∈ KK, wr.heap[p.1]? = some p.2 ∧ p.1 < B2 ∧ p.1 ≠ o
  b2 : B2 ≤ wr.heap.size ∧ w.heap.size ≤ B2 ∧ w.heap.size ≤ o
  ty : ∀ x ∈ R, (3 : TypeId) ≠ x.2.1
  ne : ∀ x ∈ R, x.1 ≠ o
section
variable {w wr w' : World} {B2 o : Nat} {fr q : Int} {R : List (Nat × TypeId × Array Value)} {KK : List (Nat × Obj)} {v : Value} {n : Nat} {L : List Int}
theorem Gat.to (h : Gat w wr B2 o fr q R KK v n L) (hb : Below wr.heap.size wr w') : Gat w w' B2 o fr q R KK v n L :=
  ⟨h.own.to hb, row_below h.row hb, fun p hp => by
    obtain ⟨h1, h2⟩ := h.keep p hp
    exact ⟨(hb.block p.1 (Array.getElem?_eq_some_iff.1 h1).1).trans h1, h2⟩, ⟨Nat.le_trans h.b2.1 hb.size, h.b2.2⟩, h.ty, h.ne⟩
theorem Gat.alloc (h : Gat w wr B2 o fr q R KK v n L) (x : Obj) : Gat w (wr.alloc x) B2 o fr q R KK v n L := h.to ((Below.refl _ _).alloc (Nat.le_refl _) x)
theorem Gat.drew (h : Gat w wr B2 o fr q R KK v n L) : Gat w wr.drew B2 o fr q R KK v n L := h.to ((Below.refl wr.heap.size wr).drew)
theorem Gat.grown (h : Gat w wr B2 o fr q R KK v n L) (hg : wr.grownBy w' v.ownBlock) : Own w w' ((o, 24, #[.int .i64 fr, .int .i64 q, v]) :: R) :=
  h.own.grown (row_mono h.row h.b2.2.1) hg (by
    intro x hx
    rcases List.mem_cons.1 hx with rfl | hx
    · show (3 : TypeId) ≠ 24; decide
    · exact h.ty x hx)
theorem Gat.app {v4 : Value} {n4 : Nat} {L4 : List Int} (h : Gat w wr B2 o fr q R KK v n L) (hown : w'.ownsRow B2 3 1 v4 n4 (L4.map (Value.int .i64))) (hg : wr.grownBy w' v.ownBlock) : Gat w (w'.setCell ⟨o, 2, none⟩ v4) B2 o fr q R KK v4 n4 L4 := by
  have Y := h.grown hg
  have hsz : w'.heap.size ≤ (w'.setCell ⟨o, 2, none⟩ v4).heap.size := by simp [World.setCell]
  refine ⟨?_, ?_, fun p hp => ?_, ⟨Nat.le_trans h.b2.1 (Nat.le_trans hg.size hsz), h.b2.2⟩, h.ty, h.ne⟩
  · exact Y.set0 h.b2.2.2 h.ne 2 v4
  · exact row_set hown (Y.2 _ (List.mem_cons_self ..)) (show (3 : TypeId) ≠ 24 by decide) 2 v4
  · obtain ⟨h1, h2, h3⟩ := h.keep p hp
    refine ⟨?_, h2, h3⟩
    have e1 : w'.heap[p.1]? = wr.heap[p.1]? := hg.block p.1 (Array.getElem?_eq_some_iff.1 h1).1 (fun e => by
      have := (h.row.lt p.1 e.symm).1
      omega)
    have e2 : (w'.setCell ⟨o, 2, none⟩ v4).heap[p.1]? = w'.heap[p.1]? := Below.heap_setCell w' ⟨o, 2, none⟩ v4 p.1 (fun e => h3 (by first | exact e | exact e.symm))
    exact e2.trans (e1.trans h1)
/-- a block that holds no cells is turned, beyond the row's base -/
theorem Gat.turn {row : Option Nat} (h : Gat w wr B2 o fr q R KK v n L) (hg : wr.grownBy w' row) (hr : ∀ r, row = some r → B2 ≤ r ∧ ∃ x : Obj, wr.heap[r]? = some x ∧ x.isCells = false) : Gat w w' B2 o fr q R KK v n L := by
  have nb : ∀ (b : Nat) (t : TypeId) (cs : Array Value) (f : Nat × Nat), wr.heap[b]? = some (.cells cs t f) → w'.heap[b]? = some (.cells cs t f) := fun b t cs f hb =>
    (hg.block b (Array.getElem?_eq_some_iff.1 hb).1 (fun e => by
      obtain ⟨_, x, hx, hc⟩ := hr b e.symm
      rw [hb] at hx; cases hx; cases hc)).trans hb
  refine ⟨⟨h.own.1.grown hg h.own.1.size (fun k hk => Nat.le_trans h.b2.2.1 (hr k hk).1), fun x hx => nb _ _ _ _ (h.own.2 x hx)⟩, ?_, fun p hp => ?_, ⟨Nat.le_trans h.b2.1 hg.size, h.b2.2⟩, h.ty, h.ne⟩
  · refine h.row.kept hg ?_
    rcases h.row.2 with ⟨rfl, _⟩ | ⟨g, cap, cur, rfl, _, hgb, _⟩
    · exact .inl rfl
    · refine .inr fun e => ?_
      obtain ⟨_, x, hx, hc⟩ := hr g (by simpa [Value.ownBlock] using e.symm)
      rw [hgb] at hx; cases hx; cases hc
  · obtain ⟨h1, h2⟩ := h.keep p hp
    refine ⟨(hg.block p.1 (Array.getElem?_eq_some_iff.1 h1).1 (fun e => ?_)).trans h1, h2⟩
    have := (hr p.1 e.symm).1
    omega
/-- the record is done: it is stored as the result -/
theorem Gat.post {rb : Nat} {cs : Array Value} (h : Gat w wr B2 o fr q R KK v n L) (hrb : (rb, (24 : TypeId), cs) ∈ R) (hw : w.heap.size ≤ rb) (x y z : Value) (hL : ∀ u ∈ L, -9223372036854775808 ≤ u ∧ u ≤ 9223372036854775807) (hn : L.length ≤ 9223372036854775807)
    (hf : -9223372036854775808 ≤ fr ∧ fr ≤ 9223372036854775807) (hq : -9223372036854775808 ≤ q ∧ q ≤ 9223372036854775807) :
    SerPost ⟨fr, q, L⟩ 0 w (.returned (.tuple #[.agg #[.int .i64 fr, .int .i64 q, v], .int .i64 0])) (((wr.setCell ⟨rb, 0, none⟩ x).setCell ⟨rb, 1, none⟩ y).setCell ⟨rb, 2, none⟩ z) := by
  have hB : Blk wr rb 24 cs := h.own.2 _ (List.mem_cons_of_mem _ hrb)
  have ne : (3 : TypeId) ≠ 24 := by decide
  have row := row_set (row_set (row_set h.row hB ne 0 x) (hB.set_ 0 x) ne 1 y) ((hB.set_ 0 x).set_ 1 y) ne 2 z
  obtain ⟨A, c, e, hs⟩ := IntSl.of_row row hn (fun i hi => hL _ (List.getElem_mem hi))
  have hc : L.length ≤ c := by
    have hl := row.1
    rw [List.length_map] at hl
    rcases row.2 with ⟨e', h0⟩ | ⟨g, cap, cur, e', _, _, h4, _⟩
    · omega
    · rw [e] at e'
      injection e' with e1 e2 e3
      omega
  exact ⟨below_set (below_set (below_set h.own.1 hw x) hw y) hw z, ⟨A, c⟩, by rw [e], hs, hc, hf, hq⟩
end
end Go.Proofs.YtkjndkeboeieoaaGreatDoor

namespace Go.Proofs.YtkjndkeboeieoaaGreatDoor
open Go.RowKit Go.Shelf

attribute [local go_sem] Oper.semAt_some

/-- append in a fence: the new slice written out -/
theorem wpListIn_append_form {F : Fence} {n : Nat} {P : Program} (w : World) {ops : Array Oper} {rest : List Oper} {o : Oper} {a : Act} {Q : Exit → Act → World → Prop}
    (hg : o.guard = none) (s x : Operand) (t : TypeId) (hop : o.op = Op.call { callee := Callee.builtin Builtin.append, args := #[s, x], argTypes := #[t, t] })
    (base : Nat) (e : TypeId) (i : TypeInfo) (z : Value) (size bytes : Nat) (h1 : P.underlying t = some (.slice e)) (h2 : P.info? e = some i) (h3 : i.zero = some z) (h4 : i.size = size) (h5 : i.bytes = bytes) (h6 : z.cells.size = size) (h7 : 0 < size)
    (v : Value) (k : Nat) (xs : List Value) (hs : a.eval s = v) (hown : w.ownsRow base e size v k xs) (ad : Addr) (m c : Nat) (news : List Value) (hx : a.eval x = .slice (some ad) m c) (hn : news.length = m * size)
    (hc : ∀ j u, news[j]? = some u → w.cell? (ad.add j) = some u) (h1c : ∀ u ∈ news, u.oneCell' = true) (h0 : 0 < m) (b1 : k + m ≤ maxLen) (b2 : (k + m) * bytes ≤ 140737488355328) (b3 : base ≤ w.heap.size)
    (hK : ∀ g cap w', w'.ownsRow base e size (.slice (some ⟨g, 0, none⟩) (k + m) cap) (k + m) (xs ++ news) → w.grownBy w' v.ownBlock → wpListIn F n P ops Q rest (a.put o.dst (.slice (some ⟨g, 0, none⟩) (k + m) cap)) w') :
    wpListIn F n P ops Q (o :: rest) a w :=
  wpListIn_append_own w hg s x t hop base e i z size bytes h1 h2 h3 h4 h5 h6 h7 v k xs hs hown ad m c news hx hn hc h1c b1 b2 b3 (fun v' w' h g _ => by
    obtain ⟨g', c', rfl⟩ := row_form h (by omega)
    exact hK _ _ _ h g)
/-- what is no cells lies as it lay behind an append to a record in the making -/
theorem Gat.others {w W w4 : World} {B2 o : Nat} {fr q : Int} {R : List (Nat × TypeId × Array Value)} {KK : List (Nat × Obj)} {v v4 : Value} {n : Nat} {L : List Int} {tmp : Obj} (h : Gat w W B2 o fr q R KK v n L) (hg : (W.alloc tmp).grownBy w4 v.ownBlock) : KeepsOthers W (w4.setCell ⟨o, 2, none⟩ v4) :=
  ((KeepsOthers.alloc W tmp).trans (KeepsOthers.of_grownBy hg fun j x ej hj => by
    rcases (h.row.alloc tmp).2 with ⟨rfl, _⟩ | ⟨g, cap, cur, rfl, _, hgb, _⟩
    · simp [Value.ownBlock] at ej
    · obtain rfl : g = j := by simpa [Value.ownBlock] using ej
      rw [hgb] at hj; cases hj; rfl)).trans (KeepsOthers.setCell _ _ _)
/-- the two boxes lie as they lay -/
def KpB (Bs Bn : Nat) (W W' : World) : Prop := W'.heap[Bs]? = W.heap[Bs]? ∧ W'.heap[Bn]? = W.heap[Bn]?
theorem KpB.t {Bs Bn : Nat} {A B C : World} (h : KpB Bs Bn A B) (k : KpB Bs Bn B C) : KpB Bs Bn A C := ⟨k.1.trans h.1, k.2.trans h.2⟩
theorem KpB.cell {Bs Bn : Nat} {A B : World} (h : KpB Bs Bn A B) {i : Nat} : B.cell? ⟨Bs, i, none⟩ = A.cell? ⟨Bs, i, none⟩ ∧ B.cell? ⟨Bn, i, none⟩ = A.cell? ⟨Bn, i, none⟩ := ⟨World.cell?_of_block (a := ⟨Bs, i, none⟩) h.1, World.cell?_of_block (a := ⟨Bn, i, none⟩) h.2⟩
theorem KpB.b {Bs Bn : Nat} {w : World} (h1 : Bs < w.heap.size) (h2 : Bn < w.heap.size) (W : World) (l : Nat) (o o' : Obj) (hl : w.heap.size ≤ l) (_ : W.heap[l]? = some o) (_ : o.isCells = false) (_ : o.isWalk = false) : KpB Bs Bn W (W.putObj l o') := by
  have g := grownBy_putObj' W l o'
  have hk : ∀ b, b < w.heap.size → (W.putObj l o').heap[b]? = W.heap[b]? := fun b hb => by
    rcases Nat.lt_or_ge b W.heap.size with h | h
    · exact g.block b h (fun e => by injection e with e; omega)
    · have hlW := (Array.getElem?_eq_some_iff.1 ‹W.heap[l]? = some o›).1
      omega
  exact ⟨hk Bs h1, hk Bn h2⟩
/-- a chunk's value -/
abbrev chEnc (b off k x : Nat) : Value := .slice (some ⟨b, off + x * k, none⟩) k k
set_option maxRecDepth 100000 in
set_option maxHeartbeats 4000000 in
theorem chunk1_in (n : Nat) (hn : 1 ≤ n) (l Bs Bn b off len cap k m : Nat) (A : Option Addr) (hA : 0 < m → A = some ⟨b, off, none⟩) (hlen : len = m * k) (h1 : 1 ≤ k) (hcap : len ≤ cap) (h63 : len ≤ 10000) (hk63 : k ≤ 100000) (J Jx : List (Fin m) → World → Prop)
    (hY : ∀ (pre : List (Fin m)) (x : Fin m) (W : World), J pre W → pre.length < m → YieldAt Fence.wide (n - 1) Tryz.prog l #[chEnc b off k x.1] W fun e W' =>
      (e = .returned (.bool true) ∧ J (pre ++ [x]) W' ∧ KpB Bs Bn W W') ∨ (e = .returned (.bool false) ∧ Jx (pre ++ [x]) W'))
    (W : World) (hBs : W.cell? ⟨Bs, 0, none⟩ = some (.slice A len cap)) (hBn : W.cell? ⟨Bn, 0, none⟩ = some (.int .i64 (k : Int))) (hJd : ∀ pre W, J pre W → J pre W.drew) (h0 : J [] W) :
    CallsIn Fence.wide n Tryz.prog 54 #[.func (.yield l) #[] #[], .pointer (some ⟨Bs, 0, none⟩), .pointer (some ⟨Bn, 0, none⟩)] W fun e W' => (∃ v, e = .returned v) ∧
      ((∃ ys : List (Fin m), ys.map (·.1) = List.range m ∧ J ys W') ∨ (∃ pre : List (Fin m), (∃ j, j ≤ m ∧ pre.map (·.1) = List.range j) ∧ Jx pre W')) := by
  refine callsIn_of_wp Tryz.func54 rfl trivial ?_ rfl
  simp only [Tryz.ntmps54, List.size_toArray, List.length_cons, List.length_nil, Nat.reduceAdd, Nat.reduceSub, Array.replicate_succ, Array.replicate_zero, List.push_toArray, List.append_toArray, List.nil_append, List.cons_append]
  gi_wp2
  gi_loopw [4] (fun i wr => ∃ (j : Nat) (pre : List (Fin m)), j ≤ m ∧ i = .int .i64 ((j * k : Nat) : Int) ∧ Hid (J pre wr ∧ KpB Bs Bn W wr ∧ pre.map (·.1) = List.range j))
    (fun i _ => len - (intOf i).toNat)
  case atStart => exact ⟨0, [], Nat.zero_le _, by simp, hide ⟨h0, ⟨rfl, rfl⟩, rfl⟩⟩
  case round =>
    obtain ⟨j, pre, hj, rfl, Y⟩ := hrel
    have cS := Y.out.2.1.cell.1.trans hBs
    have cN := Y.out.2.1.cell.2.trans hBn
    have hm1 : (j + 1) * k = j * k + k := by rw [Nat.add_mul, Nat.one_mul]
    by_cases hlt : j < m
    · have hle : (j + 1) * k ≤ m * k := Nat.mul_le_mul_right k hlt
      obtain rfl := hA (by omega)
      have hpl : pre.length = j := by have := congrArg List.length Y.out.2.2; simpa using this
      obtain ⟨fn, tmps, assign, body, hy, hR⟩ := hY pre ⟨j, hlt⟩ wr.drew (hJd _ _ Y.out.1) (by omega)
      dsimp only [chEnc] at hy
      have HM := hide hm1
      have HLEN := hide hlen
      rw [← hlen] at hle
      clear hlen
      generalize hI : j * k = I at *
      have HI := hide hI
      clear hI
      have i1 : I + k ≤ len := by omega
      have q0 : (I : Int) < (len : Int) := by omega
      have q1 : ¬ cap = I := by omega
      have q2 : ¬ (cap : Int) = (I : Int) := by omega
      have t1 : ((I : Int)).toNat = I := by omega
      have s1 := IntWalk.i64_in ((I : Int) + (k : Int)) (by omega)
      have s2 : min (k : Int) ((len - I : Nat) : Int) = (k : Int) := by omega
      have t2 : ((I : Int) + (k : Int)).toNat = I + k := by omega
      clear hle hY hA hm1
      gi_wp2
      gi_region
      gi_wp2
      refine hR.mono ?_
      rintro e W3 (⟨rfl, hJ3, hk3⟩ | ⟨rfl, hJx3⟩)
      · have B3 : KpB Bs Bn W W3 := KpB.t (B := wr.drew) Y.out.2.1 hk3
        have cN3 := B3.cell.2.trans hBn
        have E : (pre ++ [(⟨j, hlt⟩ : Fin m)]).map (fun x : Fin m => x.1) = List.range (j + 1) := by rw [List.map_append, Y.out.2.2, List.range_succ]; rfl
        have Z := hide (And.intro hJ3 (And.intro B3 E))
        clear hJ3 hk3 B3 E hy cS cN
        gi_wp2
        go_roundw
        case rel => exact ⟨j + 1, pre ++ [⟨j, hlt⟩], hlt, by rw [HM.out]; go_num, Z⟩
        case measure => simp [intOf]; omega
      · gi_wp2
        refine bodyPost_ret (results_none rfl _ _ _) rfl ?_
        exact ⟨⟨_, rfl⟩, .inr ⟨_, ⟨j + 1, hlt, by rw [List.map_append, Y.out.2.2, List.range_succ]; rfl⟩, hJx3⟩⟩
    · have e : j = m := by omega
      subst e
      have q0 : ¬ (((j * k : Nat) : Int) < (len : Int)) := by omega
      gi_wp2
      go_end0
      exact ⟨⟨_, rfl⟩, .inl ⟨pre, Y.out.2.2, Y.out.1⟩⟩
set_option maxHeartbeats 1000000 in
/-- slices.Chunk boxes the slice and the size; the function value holds the two boxes -/
theorem chunk_in (n : Nat) (A : Option Addr) (len cap k : Nat) (h1 : 1 ≤ k) (w : World) :
    CallsIn Fence.wide n Tryz.prog 26 #[.slice A len cap, .int .i64 (k : Int)] w fun e w' => e = .returned (.func (.func 54) #[] #[.pointer (some ⟨w.heap.size, 0, none⟩), .pointer (some ⟨w.heap.size + 1, 0, none⟩)]) ∧ w' = (w.alloc (.cells #[.slice A len cap] 22)).alloc (.cells #[.int .i64 (k : Int)] 3) := by
  have k1 : ¬ ((k : Int) < 1) := by omega
  have X := ((Own.start w).alloc #[.slice A len cap] 22).alloc #[.int .i64 (k : Int)] 3
  simp only [World.size_alloc] at X
  have hr := X.r2
  clear X
  refine callsIn_of_wp Tryz.func26 rfl trivial ?_ rfl
  simp only [Tryz.ntmps26, List.size_toArray, List.length_cons, List.length_nil, Nat.reduceAdd, Nat.reduceSub, Array.replicate_succ, Array.replicate_zero, List.push_toArray, List.append_toArray, List.nil_append, List.cons_append]
  gi_wp2
  go_ret
  exact ⟨rfl, rfl⟩
theorem grown_drew (w : World) (row : Option Nat) : w.grownBy w.drew row := ⟨rfl, rfl, rfl, Nat.le_refl _, fun _ _ _ => rfl⟩
/-- the iterator hands each chunk on, in order -/
theorem chunk_stops (n : Nat) (hn : 1 ≤ n) (Bs Bn b off len cap k m : Nat) (A : Option Addr) (hA : 0 < m → A = some ⟨b, off, none⟩) (hlen : len = m * k) (h1 : 1 ≤ k) (hcap : len ≤ cap) (h63 : len ≤ 10000) (hk63 : k ≤ 100000) (w : World)
    (hBs : w.cell? ⟨Bs, 0, none⟩ = some (.slice A len cap)) (hBn : w.cell? ⟨Bn, 0, none⟩ = some (.int .i64 (k : Int))) :
    SeqStopsK Fence.wide n Tryz.prog 54 #[.pointer (some ⟨Bs, 0, none⟩), .pointer (some ⟨Bn, 0, none⟩)] (fun x : Fin m => #[chEnc b off k x.1]) (KpB Bs Bn) (fun ys => ys.map (fun x : Fin m => x.1) = List.range m) (fun pre => ∃ j, j ≤ m ∧ pre.map (fun x : Fin m => x.1) = List.range j) m w := fun l J Jx W hW hJ _ hY h0 =>
  chunk1_in n hn l Bs Bn b off len cap k m A hA hlen h1 hcap h63 hk63 J Jx hY W ((hW.cell (p := ⟨Bs, 0, none⟩) (lt_of_cell hBs)).trans hBs) ((hW.cell (p := ⟨Bn, 0, none⟩) (lt_of_cell hBn)).trans hBn)
    (fun pre W h => hJ pre W W.drew none h (grown_drew W none) (fun r e => by cases e)) h0
end Go.Proofs.YtkjndkeboeieoaaGreatDoor

namespace Go.Proofs.YtkjndkeboeieoaaGreatDoor
open Go.RowKit Go.Shelf

attribute [local go_sem] Oper.semAt_some

/-- a chunk's value -/
abbrev chEncK (b off len k x : Nat) : Value := .slice (some ⟨b, off + x * k, none⟩) (min k (len - x * k)) (min k (len - x * k))
set_option maxRecDepth 100000 in
set_option maxHeartbeats 4000000 in
theorem chunkK1_in (n : Nat) (hn : 1 ≤ n) (l Bs Bn b off len cap k m : Nat) (A : Option Addr) (hA : 0 < m → A = some ⟨b, off, none⟩) (hlen : ∀ j, j < m ↔ j * k < len) (h1 : 1 ≤ k) (hcap : len ≤ cap) (h63 : len ≤ 10000) (hk63 : k ≤ 100000) (J Jx : List (Fin m) → World → Prop)
    (hY : ∀ (pre : List (Fin m)) (x : Fin m) (W : World), J pre W → pre.length < m → YieldAt Fence.wide (n - 1) Tryz.prog l #[chEncK b off len k x.1] W fun e W' =>
      (e = .returned (.bool true) ∧ J (pre ++ [x]) W' ∧ KpB Bs Bn W W') ∨ (e = .returned (.bool false) ∧ Jx (pre ++ [x]) W'))
    (W : World) (hBs : W.cell? ⟨Bs, 0, none⟩ = some (.slice A len cap)) (hBn : W.cell? ⟨Bn, 0, none⟩ = some (.int .i64 (k : Int))) (hJd : ∀ pre W, J pre W → J pre W.drew) (h0 : J [] W) :
    CallsIn Fence.wide n Tryz.prog 54 #[.func (.yield l) #[] #[], .pointer (some ⟨Bs, 0, none⟩), .pointer (some ⟨Bn, 0, none⟩)] W fun e W' => (∃ v, e = .returned v) ∧
      ((∃ ys : List (Fin m), ys.map (·.1) = List.range m ∧ J ys W') ∨ (∃ pre : List (Fin m), (∃ j, j ≤ m ∧ pre.map (·.1) = List.range j) ∧ Jx pre W')) := by
  refine callsIn_of_wp Tryz.func54 rfl trivial ?_ rfl
  simp only [Tryz.ntmps54, List.size_toArray, List.length_cons, List.length_nil, Nat.reduceAdd, Nat.reduceSub, Array.replicate_succ, Array.replicate_zero, List.push_toArray, List.append_toArray, List.nil_append, List.cons_append]
  gi_wp2
  gi_loopw [4] (fun i wr => ∃ (j : Nat) (pre : List (Fin m)), j ≤ m ∧ i = .int .i64 ((j * k : Nat) : Int) ∧ Hid (J pre wr ∧ KpB Bs Bn W wr ∧ pre.map (·.1) = List.range j))
    (fun i _ => len - (intOf i).toNat)
  case atStart => exact ⟨0, [], Nat.zero_le _, by simp, hide ⟨h0, ⟨rfl, rfl⟩, rfl⟩⟩
  case round =>
    obtain ⟨j, pre, hj, rfl, Y⟩ := hrel
    have cS := Y.out.2.1.cell.1.trans hBs
    have cN := Y.out.2.1.cell.2.trans hBn
    have hm1 : (j + 1) * k = j * k + k := by rw [Nat.add_mul, Nat.one_mul]
    by_cases hlt : j < m
    · have hle : j * k < len := (hlen j).1 hlt
      obtain rfl := hA (by omega)
      have hpl : pre.length = j := by have := congrArg List.length Y.out.2.2; simpa using this
      obtain ⟨fn, tmps, assign, body, hy, hR⟩ := hY pre ⟨j, hlt⟩ wr.drew (hJd _ _ Y.out.1) (by omega)
      dsimp only [chEncK] at hy
      have HM := hide hm1
      clear hlen
      generalize hI : j * k = I at *
      have HI := hide hI
      clear hI
      have q0 : (I : Int) < (len : Int) := by omega
      have q1 : ¬ cap = I := by omega
      have q2 : ¬ (cap : Int) = (I : Int) := by omega
      have t1 : ((I : Int)).toNat = I := by omega
      have s1 := IntWalk.i64_in ((I : Int) + (k : Int)) (by omega)
      by_cases hkl : k ≤ len - I
      · have he : min k (len - I) = k := by omega
        rw [he] at hy
        have i1 : I + k ≤ len := by omega
        have s2 : min (k : Int) ((len - I : Nat) : Int) = (k : Int) := by omega
        have t2 : ((I : Int) + (k : Int)).toNat = I + k := by omega
        clear hle hY hA hm1 he hkl
        gi_wp2
        gi_region
        gi_wp2
        refine hR.mono ?_
        rintro e W3 (⟨rfl, hJ3, hk3⟩ | ⟨rfl, hJx3⟩)
        · have B3 : KpB Bs Bn W W3 := KpB.t (B := wr.drew) Y.out.2.1 hk3
          have cN3 := B3.cell.2.trans hBn
          have E : (pre ++ [(⟨j, hlt⟩ : Fin m)]).map (fun x : Fin m => x.1) = List.range (j + 1) := by rw [List.map_append, Y.out.2.2, List.range_succ]; rfl
          have Z := hide (And.intro hJ3 (And.intro B3 E))
          clear hJ3 hk3 B3 E hy cS cN
          gi_wp2
          go_roundw
          case rel => exact ⟨j + 1, pre ++ [⟨j, hlt⟩], hlt, by rw [HM.out]; go_num, Z⟩
          case measure => simp [intOf]; omega
        · gi_wp2
          refine bodyPost_ret (results_none rfl _ _ _) rfl ?_
          exact ⟨⟨_, rfl⟩, .inr ⟨_, ⟨j + 1, hlt, by rw [List.map_append, Y.out.2.2, List.range_succ]; rfl⟩, hJx3⟩⟩
      · have he : min k (len - I) = len - I := by omega
        rw [he] at hy
        have i1 : len - I < k := by omega
        have s2 : min (k : Int) ((len - I : Nat) : Int) = ((len - I : Nat) : Int) := by omega
        have s3 := IntWalk.i64_in ((I : Int) + ((len - I : Nat) : Int)) (by omega)
        have t2 : ((I : Int) + ((len - I : Nat) : Int)).toNat = len := by omega
        clear hle hY hA hm1 he hkl
        gi_wp2
        gi_region
        gi_wp2
        refine hR.mono ?_
        rintro e W3 (⟨rfl, hJ3, hk3⟩ | ⟨rfl, hJx3⟩)
        · have B3 : KpB Bs Bn W W3 := KpB.t (B := wr.drew) Y.out.2.1 hk3
          have cN3 := B3.cell.2.trans hBn
          have E : (pre ++ [(⟨j, hlt⟩ : Fin m)]).map (fun x : Fin m => x.1) = List.range (j + 1) := by rw [List.map_append, Y.out.2.2, List.range_succ]; rfl
          have Z := hide (And.intro hJ3 (And.intro B3 E))
          clear hJ3 hk3 B3 E hy cS cN
          gi_wp2
          go_roundw
          case rel => exact ⟨j + 1, pre ++ [⟨j, hlt⟩], hlt, by rw [HM.out]; go_num, Z⟩
          case measure => simp [intOf]; omega
        · gi_wp2
          refine bodyPost_ret (results_none rfl _ _ _) rfl ?_
          exact ⟨⟨_, rfl⟩, .inr ⟨_, ⟨j + 1, hlt, by rw [List.map_append, Y.out.2.2, List.range_succ]; rfl⟩, hJx3⟩⟩
    · have e : j = m := by omega
      subst e
      have q0 : ¬ (((j * k : Nat) : Int) < (len : Int)) := fun h => absurd ((hlen j).2 (by omega)) (Nat.lt_irrefl j)
      gi_wp2
      go_end0
      exact ⟨⟨_, rfl⟩, .inl ⟨pre, Y.out.2.2, Y.out.1⟩⟩
/-- the iterator hands each chunk on, in order -/
theorem chunkK_stops (n : Nat) (hn : 1 ≤ n) (Bs Bn b off len cap k m : Nat) (A : Option Addr) (hA : 0 < m → A = some ⟨b, off, none⟩) (hlen : ∀ j, j < m ↔ j * k < len) (h1 : 1 ≤ k) (hcap : len ≤ cap) (h63 : len ≤ 10000) (hk63 : k ≤ 100000) (w : World)
    (hBs : w.cell? ⟨Bs, 0, none⟩ = some (.slice A len cap)) (hBn : w.cell? ⟨Bn, 0, none⟩ = some (.int .i64 (k : Int))) :
    SeqStopsK Fence.wide n Tryz.prog 54 #[.pointer (some ⟨Bs, 0, none⟩), .pointer (some ⟨Bn, 0, none⟩)] (fun x : Fin m => #[chEncK b off len k x.1]) (KpB Bs Bn) (fun ys => ys.map (fun x : Fin m => x.1) = List.range m) (fun pre => ∃ j, j ≤ m ∧ pre.map (fun x : Fin m => x.1) = List.range j) m w := fun l J Jx W hW hJ _ hY h0 =>
  chunkK1_in n hn l Bs Bn b off len cap k m A hA hlen h1 hcap h63 hk63 J Jx hY W ((hW.cell (p := ⟨Bs, 0, none⟩) (lt_of_cell hBs)).trans hBs) ((hW.cell (p := ⟨Bn, 0, none⟩) (lt_of_cell hBn)).trans hBn)
    (fun pre W h => hJ pre W W.drew none h (grown_drew W none) (fun r e => by cases e)) h0
end Go.Proofs.YtkjndkeboeieoaaGreatDoor

namespace Go.Proofs.YtkjndkeboeieoaaGreatDoor
open Go Go.RowKit

def blR : Go.Shelf.Ren := ⟨fun | 166 => 24 | 167 => 27 | 240 => 52 | 276 => 76 | 169 => 28 | n => n, fun | 3 => 3 | 4 => 4 | 5 => 5 | 9 => 9 | 20 => 20 | 37 => 57 | 70 => 56 | 72 => 59 | 75 => 61 | 164 => 126 | 80 => 69 | 127 => 101 | n => n, fun | n => n⟩
theorem blL166 : Go.Proofs.Lays.n166 Tryz.prog blR := {
  mixed := by kernel_rfl
  f166 := Tryz.func24.trans (congrArg some (by kernel_rfl))
  f240 := Tryz.func52.trans (congrArg some (by kernel_rfl))
  f276 := Tryz.func76.trans (congrArg some (by kernel_rfl))
  t0 := Tryz.underlying0
  a0 := Tryz.isAgg0
  z0 := Tryz.sizeOf0
  v0 := Tryz.zeroValue0
  t3 := Tryz.underlying3
  a3 := Tryz.isAgg3
  z3 := Tryz.sizeOf3
  v3 := Tryz.zeroValue3
  t4 := Tryz.underlying4
  a4 := Tryz.isAgg4
  z4 := Tryz.sizeOf4
  v4 := Tryz.zeroValue4
  t9 := Tryz.underlying9
  a9 := Tryz.isAgg9
  z9 := Tryz.sizeOf9
  v9 := Tryz.zeroValue9
  t20 := Tryz.underlying20
  a20 := Tryz.isAgg20
  z20 := Tryz.sizeOf20
  v20 := Tryz.zeroValue20
  t37 := Tryz.underlying57
  a37 := Tryz.isAgg57
  z37 := Tryz.sizeOf57
  v37 := Tryz.zeroValue57
  t70 := Tryz.underlying56
  a70 := Tryz.isAgg56
  z70 := Tryz.sizeOf56
  v70 := Tryz.zeroValue56
  t72 := Tryz.underlying59
  a72 := Tryz.isAgg59
  z72 := Tryz.sizeOf59
  v72 := Tryz.zeroValue59
  t75 := Tryz.underlying61
  a75 := Tryz.isAgg61
  z75 := Tryz.sizeOf61
  v75 := Tryz.zeroValue61
  t164 := Tryz.underlying126
  a164 := Tryz.isAgg126
  z164 := Tryz.sizeOf126
  v164 := Tryz.zeroValue126 }
theorem blL167 : Go.Proofs.Lays.n167 Tryz.prog blR := {
  mixed := by kernel_rfl
  f167 := Tryz.func27.trans (congrArg some (by kernel_rfl))
  f240 := Tryz.func52.trans (congrArg some (by kernel_rfl))
  f276 := Tryz.func76.trans (congrArg some (by kernel_rfl))
  t0 := Tryz.underlying0
  a0 := Tryz.isAgg0
  z0 := Tryz.sizeOf0
  v0 := Tryz.zeroValue0
  t4 := Tryz.underlying4
  a4 := Tryz.isAgg4
  z4 := Tryz.sizeOf4
  v4 := Tryz.zeroValue4
  t5 := Tryz.underlying5
  a5 := Tryz.isAgg5
  z5 := Tryz.sizeOf5
  v5 := Tryz.zeroValue5
  t9 := Tryz.underlying9
  a9 := Tryz.isAgg9
  z9 := Tryz.sizeOf9
  v9 := Tryz.zeroValue9
  t20 := Tryz.underlying20
  a20 := Tryz.isAgg20
  z20 := Tryz.sizeOf20
  v20 := Tryz.zeroValue20
  t37 := Tryz.underlying57
  a37 := Tryz.isAgg57
  z37 := Tryz.sizeOf57
  v37 := Tryz.zeroValue57
  t70 := Tryz.underlying56
  a70 := Tryz.isAgg56
  z70 := Tryz.sizeOf56
  v70 := Tryz.zeroValue56
  t72 := Tryz.underlying59
  a72 := Tryz.isAgg59
  z72 := Tryz.sizeOf59
  v72 := Tryz.zeroValue59
  t75 := Tryz.underlying61
  a75 := Tryz.isAgg61
  z75 := Tryz.sizeOf61
  v75 := Tryz.zeroValue61
  t164 := Tryz.underlying126
  a164 := Tryz.isAgg126
  z164 := Tryz.sizeOf126
  v164 := Tryz.zeroValue126 }
theorem blL169 : Go.Proofs.Lays.n169 Tryz.prog blR := {
  mixed := by kernel_rfl
  f169 := Tryz.func28.trans (congrArg some (by kernel_rfl))
  t0 := Tryz.underlying0
  a0 := Tryz.isAgg0
  z0 := Tryz.sizeOf0
  v0 := Tryz.zeroValue0
  t3 := Tryz.underlying3
  a3 := Tryz.isAgg3
  z3 := Tryz.sizeOf3
  v3 := Tryz.zeroValue3
  t9 := Tryz.underlying9
  a9 := Tryz.isAgg9
  z9 := Tryz.sizeOf9
  v9 := Tryz.zeroValue9
  t37 := Tryz.underlying57
  a37 := Tryz.isAgg57
  z37 := Tryz.sizeOf57
  v37 := Tryz.zeroValue57
  t70 := Tryz.underlying56
  a70 := Tryz.isAgg56
  z70 := Tryz.sizeOf56
  v70 := Tryz.zeroValue56
  t72 := Tryz.underlying59
  a72 := Tryz.isAgg59
  z72 := Tryz.sizeOf59
  v72 := Tryz.zeroValue59
  t127 := Tryz.underlying101
  a127 := Tryz.isAgg101
  z127 := Tryz.sizeOf101
  v127 := Tryz.zeroValue101 }
theorem blX : Builder.Extra Tryz.prog blR := {
  sizeBuilder := by kernel_rfl
  liesBuilder := by kernel_rfl
  t5 := Tryz.underlying5
  a5 := Tryz.isAgg5
  z5 := Tryz.sizeOf5
  v5 := Tryz.zeroValue5
  infoByte := by kernel_rfl
  cellsByte := by kernel_rfl
  sizeByte := by kernel_rfl
  neB5 := by decide }
end Go.Proofs.YtkjndkeboeieoaaGreatDoor

namespace Go.Proofs.YtkjndkeboeieoaaGreatDoor
open Go Go.RowKit

/-- the builder in block b holds acc; what was there in w0 is as it was -/
def BldW (w0 W : World) (b : Nat) (acc : List UInt8) : Prop :=
  Lib.IsBuilderF 59 5 w0.heap.size b (Lib.byteCells acc) W ∧ Below w0.heap.size w0 W
theorem BldW.start {w0 W : World} (h : Below w0.heap.size w0 W) : BldW w0 (W.alloc (.cells #[.pointer none, .slice none 0 0] 59)) W.heap.size [] := by
  refine ⟨?_, h.alloc h.size _⟩
  have := Lib.IsBuilderF.of (Lib.fresh_isBuilder 59 5 W)
  have mono : ∀ p, Lib.BuilderAtF 59 5 W.heap.size W.heap.size p [] (W.alloc (.cells #[.pointer none, .slice none 0 0] 59)) → Lib.BuilderAtF 59 5 w0.heap.size W.heap.size p [] (W.alloc (.cells #[.pointer none, .slice none 0 0] 59)) := by
    rintro p ⟨_, v, hb, ⟨ho1, ho2⟩, hn⟩
    refine ⟨h.size, v, hb, ⟨ho1, ?_⟩, hn⟩
    rcases ho2 with h' | ⟨g, cap, cur, fz, e, hg, r⟩
    · exact .inl h'
    · exact .inr ⟨g, cap, cur, fz, e, Nat.le_trans h.size hg, r⟩
  rcases this with h' | h'
  · exact .inl (mono _ h')
  · exact .inr (mono _ h')
theorem BldW.to {w0 W W' : World} {b : Nat} {acc : List UInt8} (h : BldW w0 W b acc) (hb : Below W.heap.size W W') : BldW w0 W' b acc := by
  refine ⟨?_, below_via h.2 h.2.size hb⟩
  have mono : ∀ p, Lib.BuilderAtF 59 5 w0.heap.size b p (Lib.byteCells acc) W → Lib.BuilderAtF 59 5 w0.heap.size b p (Lib.byteCells acc) W' := by
    rintro p ⟨hB, v, hbk, hown, hn⟩
    refine ⟨hB, v, (hb.block b (Array.getElem?_eq_some_iff.1 hbk).1).trans hbk, hown.kept (row := none) ⟨hb.os, hb.tape, hb.output, hb.size, fun i hi _ => hb.block i hi⟩ (by cases v.ownBlock <;> simp), hn⟩
  rcases h.1 with h' | h'
  · exact .inl (mono _ h')
  · exact .inr (mono _ h')
theorem BldW.alloc {w0 W : World} {b : Nat} {acc : List UInt8} (h : BldW w0 W b acc) (o : Obj) : BldW w0 (W.alloc o) b acc := h.to ((Below.refl _ _).alloc (Nat.le_refl _) o)
theorem BldW.drew {w0 W : World} {b : Nat} {acc : List UInt8} (h : BldW w0 W b acc) : BldW w0 W.drew b acc := h.to ((Below.refl W.heap.size W).drew)
theorem BldW.lt {w0 W : World} {b : Nat} {acc : List UInt8} (h : BldW w0 W b acc) : w0.heap.size ≤ b ∧ b < W.heap.size := by
  rcases h.1 with h' | h' <;> exact ⟨h'.1, h'.lt⟩
/-- what a writer leaves -/
def BlPost (w0 : World) (b : Nat) (acc : List UInt8) (v : Value) (W : World) (e : Ending) (W' : World) : Prop :=
  e = .returned v ∧ BldW w0 W' b acc ∧ Below w0.heap.size W W' ∧ Lib.OthersKept 5 (some b) W W'
theorem bws_any (w0 W : World) (b : Nat) (acc s : List UInt8) (h : BldW w0 W b acc) (hl : acc.length + s.length ≤ 140737488355328) :
    Calls Tryz.prog 24 #[.pointer (some ⟨b, 0, none⟩), strV s] W (BlPost w0 b (acc ++ s) (.tuple #[.int .i64 s.length, .nilIface]) W) := by
  have hs : (⟨s.toArray⟩ : ByteArray).size = s.length := by simp [ByteArray.size]
  refine (Any.Builder_WriteString_k blL166 blX w0.heap.size b (Lib.byteCells acc) ⟨s.toArray⟩ W h.1 (by rw [Lib.byteCells_length, hs]; exact hl) h.2.size).mono fun e W' ⟨he, hA, hb, hk⟩ => ?_
  rw [hs] at he
  refine ⟨he, ⟨.inr ?_, h.2.trans hb⟩, hb, hk⟩
  rw [Lib.byteCells_append, ← Lib.strCells_toArray s]
  exact hA
theorem bwb_any (w0 W : World) (b : Nat) (acc : List UInt8) (c : UInt8) (h : BldW w0 W b acc) (hl : acc.length + 1 ≤ 140737488355328) :
    Calls Tryz.prog 27 #[.pointer (some ⟨b, 0, none⟩), .int .u8 (c.toNat : Int)] W (BlPost w0 b (acc ++ [c]) .nilIface W) := by
  refine (Any.Builder_WriteByte_k blL167 blX w0.heap.size b (Lib.byteCells acc) (c.toNat : Int) W h.1 (by rw [Lib.byteCells_length]; exact hl) h.2.size).mono fun e W' ⟨he, hA, hb, hk⟩ => ?_
  refine ⟨he, ⟨.inr ?_, h.2.trans hb⟩, hb, hk⟩
  rw [Lib.byteCells_append]
  exact hA
theorem bst_any (w0 W : World) (b : Nat) (acc : List UInt8) (h : BldW w0 W b acc) :
    Calls Tryz.prog 28 #[.pointer (some ⟨b, 0, none⟩)] W (BlPost w0 b acc (strV acc) W) := by
  refine (Any.Builder_String_any_k blL169 blX w0.heap.size b acc W h.1 h.2.size).mono fun e W' ⟨he, hA, hb, hk⟩ => ?_
  exact ⟨he, ⟨hA, h.2.trans hb⟩, hb, hk⟩
/-- own blocks beside the builder -/
theorem Own.others {w W W' : World} {b : Nat} {L : List (Nat × TypeId × Array Value)} (h : Own w W L) (hb : Below w.heap.size W W') (hk : Lib.OthersKept 5 (some b) W W') (hn : ∀ x ∈ L, x.1 ≠ b ∧ x.2.1 ≠ 5) : Own w W' L :=
  ⟨h.1.trans hb, fun x hx => hk x.1 _ (h.2 x hx) (fun e => (hn x hx).1 (by injection e)) (fun c fz e => (hn x hx).2 (by injection e))⟩
end Go.Proofs.YtkjndkeboeieoaaGreatDoor

namespace Go.Proofs.YtkjndkeboeieoaaGreatDoor
open Go Go.RowKit

theorem rowsK_parts : ∀ (k : Nat) (l : List Int), l.length ≤ k → rowsK k l = (List.range ((l.length + 11) / 12)).map fun x => part l 12 x
  | 0, l, h => by
    obtain rfl : l = [] := List.eq_nil_of_length_eq_zero (by omega)
    rfl
  | k + 1, l, h => by
    rw [rowsK]
    by_cases e : l = []
    · subst e; rfl
    · have hp := List.length_pos_iff.2 e
      rw [if_neg e, rowsK_parts k (l.drop 12) (by simp; omega), List.length_drop]
      obtain ⟨m, hm⟩ : ∃ m, (l.length + 11) / 12 = m + 1 := ⟨(l.length + 11) / 12 - 1, by omega⟩
      have hm2 : (l.length - 12 + 11) / 12 = m := by omega
      rw [hm, hm2, List.range_succ_eq_map, List.map_cons, List.map_map]
      congr 1
      apply List.map_congr_left
      intro x _
      show ((l.drop 12).drop (x * 12)).take 12 = (l.drop ((x + 1) * 12)).take 12
      rw [List.drop_drop, show 12 + x * 12 = (x + 1) * 12 by omega]
/-- the first depths' words of a line -/
theorem lnG_take {r : List Int} {j : Nat} (h : j < r.length) : lnG (r.take (j + 1)) = (if j = 0 then [] else lnG (r.take j) ++ [32]) ++ wdT (r.getD j 0) := by
  have e : r.take (j + 1) = r.take j ++ [r.getD j 0] := by
    rw [List.take_succ_eq_append_getElem h]; simp [h]
  rw [e]
  unfold lnG
  cases j with
  | zero => simp [jn]
  | succ j =>
    rw [if_neg (by omega)]
    cases hr : r with
    | nil => rw [hr] at h; simp at h
    | cons a t =>
      rw [List.take_succ_cons, List.cons_append, List.map_cons, List.map_cons, jn_wds, jn_wds]
      simp
theorem lnG_len : ∀ (r : List Int), (∀ n ∈ r, depR n) → (lnG r).length ≤ 16 * r.length
  | [], _ => by simp [lnG, jn]
  | a :: t, h => by
    unfold lnG
    rw [List.map_cons, jn_wds]
    have ha := h a (List.mem_cons_self ..)
    have h1 := wdT_len ha.1 ha.2
    have h2 : ∀ t : List Int, (∀ n ∈ t, depR n) → ((t.map wdT).flatMap (32 :: ·)).length ≤ 16 * t.length := fun t => by
      induction t with
      | nil => intro _; simp
      | cons b u ih =>
        intro hb
        have i1 := ih (fun n hn => hb n (List.mem_cons_of_mem _ hn))
        have hb0 := hb b (List.mem_cons_self ..)
        have i2 := wdT_len hb0.1 hb0.2
        simp only [List.map_cons, List.flatMap_cons, List.length_append, List.length_cons] at i1 ⊢
        omega
    have h3 := h2 t (fun n hn => h n (List.mem_cons_of_mem _ hn))
    simp only [List.length_append, List.length_cons] at h3 ⊢
    omega
/-- the text of some chunks behind the first line -/
def chT (h : List UInt8) (l : List Int) {m : Nat} (pre : List (Fin m)) : List UInt8 := h ++ 10 :: pre.flatMap fun x => lnG (part l 12 x.1) ++ [10]
theorem chT_nil (h : List UInt8) (l : List Int) {m : Nat} : chT h l ([] : List (Fin m)) = h ++ [10] := rfl
theorem chT_snoc (h : List UInt8) (l : List Int) {m : Nat} (pre : List (Fin m)) (x : Fin m) : chT h l (pre ++ [x]) = chT h l pre ++ lnG (part l 12 x.1) ++ [10] := by
  unfold chT; simp
theorem chT_end {h : List UInt8} {l : List Int} {m : Nat} (hm : m = (l.length + 11) / 12) {ys : List (Fin m)} (hy : ys.map (fun x : Fin m => x.1) = List.range m) : chT h l ys = txG h l := by
  rw [txG_rows, rowsK_parts _ _ (Nat.le_refl _), ← hm, ← hy]
  unfold chT rwT
  simp [List.flatMap_map]
theorem part_sub (l : List Int) (k i : Nat) : ∀ n ∈ part l k i, n ∈ l := fun _ hn => List.mem_of_mem_drop (List.mem_of_mem_take hn)
theorem part_le (l : List Int) (k i : Nat) : (part l k i).length ≤ k := by simp [part]; omega
theorem chT_len {h : List UInt8} {l : List Int} {m : Nat} (pre : List (Fin m)) (hl : ∀ n ∈ l, depR n) : (chT h l pre).length ≤ h.length + 1 + 193 * pre.length := by
  have key : ∀ pre : List (Fin m), (pre.flatMap fun x => lnG (part l 12 x.1) ++ [10]).length ≤ 193 * pre.length := fun pre => by
    induction pre with
    | nil => simp
    | cons a t ih =>
      have h1 := lnG_len (part l 12 a.1) (fun n hn => hl n (part_sub l 12 a.1 n hn))
      have h2 := part_le l 12 a.1
      simp only [List.flatMap_cons, List.length_append, List.length_cons, List.length_nil] at ih ⊢
      omega
  have := key pre
  unfold chT
  simp only [List.length_append, List.length_cons]
  omega
/-- a block that holds no cells is turned: the builder goes on -/
theorem BldW.turn {w0 W W' : World} {b : Nat} {acc : List UInt8} {row : Option Nat} (h : BldW w0 W b acc) (hg : W.grownBy W' row) (hr : ∀ r, row = some r → w0.heap.size ≤ r ∧ ∃ x : Obj, W.heap[r]? = some x ∧ x.isCells = false) : BldW w0 W' b acc := by
  refine ⟨?_, h.2.grown hg h.2.size (fun k hk => (hr k hk).1)⟩
  have nb : ∀ (k : Nat) (t : TypeId) (cs : Array Value) (f : Nat × Nat), W.heap[k]? = some (.cells cs t f) → row ≠ some k := fun k t cs f hk e => by
    obtain ⟨_, x, hx, hc⟩ := hr k e
    rw [hk] at hx; cases hx; cases hc
  have mono : ∀ p, Lib.BuilderAtF 59 5 w0.heap.size b p (Lib.byteCells acc) W → Lib.BuilderAtF 59 5 w0.heap.size b p (Lib.byteCells acc) W' := by
    rintro p ⟨hB, v, hbk, hown, hn⟩
    refine ⟨hB, v, (hg.block b (Array.getElem?_eq_some_iff.1 hbk).1 (fun e => nb b _ _ _ hbk e.symm)).trans hbk, hown.kept hg ?_, hn⟩
    rcases hown.2 with ⟨rfl, _⟩ | ⟨g, cap, cur, fz, rfl, _, hh, _⟩
    · exact .inl rfl
    · exact .inr (fun e => nb g _ _ _ hh e.symm)
  rcases h.1 with h' | h'
  · exact .inl (mono _ h')
  · exact .inr (mono _ h')
/-- the builder in a range over chunks: the iterator's boxes lie as they lay -/
structure Bt (w W : World) (B b Bs Bn : Nat) (cS cN : Array Value) (acc : List UInt8) : Prop where
  bld : BldW w W b acc
  sz : B ≤ W.heap.size ∧ w.heap.size ≤ B
  s : Blk W Bs 22 cS ∧ Bs ≠ b ∧ Bs < B
  n : Blk W Bn 3 cN ∧ Bn ≠ b ∧ Bn < B
section
variable {w W W' : World} {B b Bs Bn : Nat} {cS cN : Array Value} {acc acc' : List UInt8}
theorem Bt.to (h : Bt w W B b Bs Bn cS cN acc) (hb : Below W.heap.size W W') : Bt w W' B b Bs Bn cS cN acc :=
  ⟨h.bld.to hb, ⟨Nat.le_trans h.sz.1 hb.size, h.sz.2⟩, ⟨h.s.1.below hb h.s.1.lt, h.s.2⟩, ⟨h.n.1.below hb h.n.1.lt, h.n.2⟩⟩
theorem Bt.turn {row : Option Nat} (h : Bt w W B b Bs Bn cS cN acc) (hg : W.grownBy W' row) (hr : ∀ r, row = some r → B ≤ r ∧ ∃ x : Obj, W.heap[r]? = some x ∧ x.isCells = false) : Bt w W' B b Bs Bn cS cN acc :=
  ⟨h.bld.turn hg (fun r e => ⟨Nat.le_trans h.sz.2 (hr r e).1, (hr r e).2⟩), ⟨Nat.le_trans h.sz.1 hg.size, h.sz.2⟩, ⟨h.s.1.grown hg (fun e => by have := (hr _ e.symm).1; have := h.s.2.2; omega), h.s.2⟩, ⟨h.n.1.grown hg (fun e => by have := (hr _ e.symm).1; have := h.n.2.2; omega), h.n.2⟩⟩
/-- the builder is written -/
theorem Bt.put (h : Bt w W B b Bs Bn cS cN acc) (hB : BldW w W' b acc') (hb : Below w.heap.size W W') (hk : Lib.OthersKept 5 (some b) W W') : Bt w W' B b Bs Bn cS cN acc' :=
  ⟨hB, ⟨Nat.le_trans h.sz.1 hb.size, h.sz.2⟩, ⟨hk Bs _ h.s.1 (fun e => h.s.2.1 (by injection e)) (fun c fz e => by injection e with _ e _; exact absurd e (by decide)), h.s.2⟩,
    ⟨hk Bn _ h.n.1 (fun e => h.n.2.1 (by injection e)) (fun c fz e => by injection e with _ e _; exact absurd e (by decide)), h.n.2⟩⟩
theorem Bt.others (h : Bt w W B b Bs Bn cS cN acc) (hb : Below w.heap.size W W') (hk : Lib.OthersKept 5 (some b) W W') : KeepsOthers W W' := by
  refine ⟨hb.size, fun k o ho hc => hk k o ho (fun e => ?_) (fun c fz e => by rw [e] at hc; cases hc)⟩
  injection e with e
  subst e
  have key : ∀ p bs, Lib.BuilderAtF 59 5 w.heap.size k p bs W → False := by
    rintro p bs ⟨_, v, hbk, _⟩
    rw [hbk] at ho
    cases ho
    cases hc
  rcases h.bld.1 with h' | h'
  · exact key _ _ h'
  · exact key _ _ h'
theorem Bt.kp (h : Bt w W B b Bs Bn cS cN acc) (h' : Bt w W' B b Bs Bn cS cN acc') : KpB Bs Bn W W' := ⟨h'.s.1.trans h.s.1.symm, h'.n.1.trans h.n.1.symm⟩
end
theorem others_below {W W' : World} (hb : Below W.heap.size W W') : KeepsOthers W W' := ⟨hb.size, fun k _ hk _ => (hb.block k (Array.getElem?_eq_some_iff.1 hk).1).trans hk⟩
end Go.Proofs.YtkjndkeboeieoaaGreatDoor

namespace Go.Proofs.YtkjndkeboeieoaaGreatDoor
open Go Go.RowKit

theorem tmodN (y k : Nat) : (y : Int).tmod (k : Int) = ((y % k : Nat) : Int) := by rw [Int.tmod_eq_emod_of_nonneg (by omega)]; rfl
theorem tdivN (y k : Nat) : (y : Int).tdiv (k : Int) = ((y / k : Nat) : Int) := by rw [Int.tdiv_eq_ediv_of_nonneg (by omega)]; rfl
set_option maxHeartbeats 1000000 in
theorem leap_any (y : Nat) (w : World) : Calls Tryz.prog 113 #[.int .i64 (y : Int)] w fun e w' => e = .returned (.bool (leapN y)) ∧ w = w' := by
  have r4 : (y : Int).tmod 4 = ((y % 4 : Nat) : Int) := tmodN y 4
  have r100 : (y : Int).tmod 100 = ((y % 100 : Nat) : Int) := tmodN y 100
  have r400 : (y : Int).tmod 400 = ((y % 400 : Nat) : Int) := tmodN y 400
  have V : Hid (leapN y = ((decide (y % 4 = 0) && decide (y % 100 ≠ 0)) || decide (y % 400 = 0))) := hide rfl
  have e4 : (((y % 4 : Nat) : Int) == 0) = decide (y % 4 = 0) := by rw [Bool.eq_iff_iff]; simp; omega
  have e100 : (((y % 100 : Nat) : Int) != 0) = decide (y % 100 ≠ 0) := by rw [Bool.eq_iff_iff]; simp; omega
  have e400 : (((y % 400 : Nat) : Int) == 0) = decide (y % 400 = 0) := by rw [Bool.eq_iff_iff]; simp; omega
  generalize decide (y % 4 = 0) = d4 at *
  generalize decide (y % 100 ≠ 0) = d100 at *
  generalize decide (y % 400 = 0) = d400 at *
  generalize leapN y = L at *
  generalize ((y % 4 : Nat) : Int) = x4 at *
  generalize ((y % 100 : Nat) : Int) = x100 at *
  generalize ((y % 400 : Nat) : Int) = x400 at *
  go_enter Tryz.func113, Tryz.ntmps113
  cases d4 <;> cases d100 <;> cases d400
  all_goals
    go_wp2
    go_ret
    exact ⟨by rw [V.out]; rfl, rfl⟩
set_option maxHeartbeats 1000000 in
theorem before_any (y : Nat) (h0 : 1 ≤ y) (h1 : y ≤ 10000) (w : World) : Calls Tryz.prog 92 #[.int .i64 (y : Int)] w fun e w' => e = .returned (.int .i64 ((bfN y : Int) - 730119)) ∧ w = w' := by
  have V : Hid ((bfN y : Int) - 730119 = 365 * ((y - 1 : Nat) : Int) + (((y - 1) / 4 : Nat) : Int) - (((y - 1) / 100 : Nat) : Int) + (((y - 1) / 400 : Nat) : Int) - 730119) := hide (by unfold bfN; omega)
  have s1 : IntKind.i64.wrap ((y : Int) - 1) = ((y - 1 : Nat) : Int) := (IntWalk.i64_in _ (by omega)).trans (by omega)
  have hn : y - 1 ≤ 9999 := by omega
  generalize y - 1 = n at *
  have q4 : (n : Int).tdiv 4 = ((n / 4 : Nat) : Int) := tdivN n 4
  have q100 : (n : Int).tdiv 100 = ((n / 100 : Nat) : Int) := tdivN n 100
  have q400 : (n : Int).tdiv 400 = ((n / 400 : Nat) : Int) := tdivN n 400
  have b4 : n / 4 ≤ 9999 := by omega
  have b100 : n / 100 ≤ 9999 := by omega
  have b400 : n / 400 ≤ 9999 := by omega
  generalize n / 4 = a at *
  generalize n / 100 = b at *
  generalize n / 400 = c at *
  go_enter Tryz.func92, Tryz.ntmps92
  go_wp2
  go_ret
  exact ⟨ret_int V.out.symm, rfl⟩
abbrev mdV : Array Value := #[.int .i64 31, .int .i64 28, .int .i64 31, .int .i64 30, .int .i64 31, .int .i64 30, .int .i64 31, .int .i64 31, .int .i64 30, .int .i64 31, .int .i64 30, .int .i64 31]
theorem md_at (k : Nat) (h : k < mdV.toList.length) : mdV.toList[k]'h = .int .i64 (([31, 28, 31, 30, 31, 30, 31, 31, 30, 31, 30, 31].getD k 0 : Nat) : Int) := by
  have h' : k < 12 := h
  match k, h' with
  | 0, _ => rfl
  | 1, _ => rfl
  | 2, _ => rfl
  | 3, _ => rfl
  | 4, _ => rfl
  | 5, _ => rfl
  | 6, _ => rfl
  | 7, _ => rfl
  | 8, _ => rfl
  | 9, _ => rfl
  | 10, _ => rfl
  | 11, _ => rfl
def MdPost (y m : Nat) (w : World) (e : Ending) (w' : World) : Prop := e = .returned (.int .i64 (mdN y m : Int)) ∧ Below w.heap.size w w'
set_option maxHeartbeats 1000000 in
theorem month_any (y m : Nat) (h0 : 1 ≤ m) (h1 : m ≤ 12) (w : World) : Calls Tryz.prog 95 #[.int .i64 (y : Int), .int .i64 (m : Int)] w (MdPost y m w) := by
  have L := hide (fun W => leap_any y W)
  have s1 : IntKind.i64.wrap ((m : Int) - 1) = ((m - 1 : Nat) : Int) := (IntWalk.i64_in _ (by omega)).trans (by omega)
  have X := (Own.start w).alloc mdV 150
  have hr := X.r1
  have hk : m - 1 < 12 := by omega
  have VT : Hid (m = 2 ∧ leapN y = true → mdN y m = 29) := hide (fun h => by unfold mdN; rw [if_pos h])
  have VF : Hid (¬ (m = 2 ∧ leapN y = true) → mdN y m = [31, 28, 31, 30, 31, 30, 31, 31, 30, 31, 30, 31].getD (m - 1) 0) := hide (fun h => by unfold mdN; rw [if_neg h])
  have CE : Hid (∀ h : m - 1 < mdV.toList.length, mdV.toList[m - 1]'h = .int .i64 (([31, 28, 31, 30, 31, 30, 31, 31, 30, 31, 30, 31].getD (m - 1) 0 : Nat) : Int)) := hide (fun h => md_at (m - 1) h)
  generalize [31, 28, 31, 30, 31, 30, 31, 31, 30, 31, 30, 31].getD (m - 1) 0 = r at *
  have e2 : ((m : Int) == 2) = decide (m = 2) := by rw [Bool.eq_iff_iff]; simp; omega
  by_cases hm : m = 2
  · rw [decide_eq_true hm] at e2
    rcases Bool.eq_false_or_eq_true (leapN y) with hl | hl
    · have V := hide (VT.out ⟨hm, hl⟩)
      rw [hl] at L
      clear hl VT VF hm
      go_enter Tryz.func95, Tryz.ntmps95
      go_wp2_with fail
      refine (L.out _).mono ?_
      rintro e w1 ⟨rfl, rfl⟩
      go_wp2
      go_ret
      exact ⟨by rw [V.out]; rfl, Below.refl _ _⟩
    · have V := hide (VF.out (fun h => by rw [hl] at h; exact absurd h.2 (by decide)))
      rw [hl] at L
      clear hl VT VF hm
      generalize m - 1 = k at *
      go_enter Tryz.func95, Tryz.ntmps95
      go_wp2_with fail
      refine (L.out _).mono ?_
      rintro e w1 ⟨rfl, rfl⟩
      go_wp2
      go_ret
      exact ⟨by rw [V.out]; exact congrArg Ending.returned (CE.out hk), X.1⟩
  · have V := hide (VF.out (fun h => hm h.1))
    rw [decide_eq_false hm] at e2
    clear VT VF hm
    generalize m - 1 = k at *
    go_enter Tryz.func95, Tryz.ntmps95
    go_wp2
    go_ret
    exact ⟨by rw [V.out]; exact congrArg Ending.returned (CE.out hk), X.1⟩
end Go.Proofs.YtkjndkeboeieoaaGreatDoor

namespace Go.Proofs.YtkjndkeboeieoaaGreatDoor
open Go.RowKit

/-- the worlds in which the blocks of L are whole, and what was there in w is as it was -/
structure OwnW (w : World) (L : List (Nat × TypeId × Array Value)) where
  W : World
  own : Own w W L
theorem wp_region_own {P : Program} {id : Nat} {Q : Exit → Act → World → Prop} {a : Act} {w W : World} {L : List (Nat × TypeId × Array Value)} {l : List Oper} (hm : P.follows .mixedOrders = true) (hB : Region.lexB .any l.toArray = true) (hX : Own w W L)
    (h : wpQuiet P l.toArray (fun W' => ∃ x : OwnW w L, W' = x.W) (fun a' => ∀ W', (∃ x : OwnW w L, W' = x.W) → Q .normal a' W') l a) : (Code.region id l.toArray true).wp P Q a W :=
  wp_region_quiet (C := fun W' => ∃ x : OwnW w L, W' = x.W) hm hB ⟨⟨W.drew, hX.drew⟩, rfl⟩ (by simpa using h)
theorem own_call {P : Program} {f : FuncId} {args : Array Value} {w : World} {L : List (Nat × TypeId × Array Value)} {v : Value} {x : OwnW w L}
    (h : Calls P f args x.W fun e w' => e = .returned v ∧ Below x.W.heap.size x.W w') : Calls P f args x.W fun e w'' => e = .returned v ∧ ∃ y : OwnW w L, w'' = y.W :=
  h.mono fun _ w' ⟨he, hb⟩ => ⟨he, ⟨w', x.own.to hb⟩, rfl⟩
theorem own_same {P : Program} {f : FuncId} {args : Array Value} {w : World} {L : List (Nat × TypeId × Array Value)} {v : Value} {x : OwnW w L}
    (h : Calls P f args x.W fun e w' => e = .returned v ∧ x.W = w') : Calls P f args x.W fun e w'' => e = .returned v ∧ ∃ y : OwnW w L, w'' = y.W :=
  h.mono fun _ _ ⟨he, hb⟩ => ⟨he, x, hb.symm⟩
end Go.Proofs.YtkjndkeboeieoaaGreatDoor

namespace Go.Proofs.YtkjndkeboeieoaaGreatDoor
open Go Go.RowKit

set_option maxRecDepth 100000 in
set_option maxHeartbeats 1000000 in
theorem later_any (n : Int) (b i : Nat) (w : World) (hb : b < w.heap.size) (hc : w.cell? ⟨b, 0, none⟩ = some (.int .i64 n)) (h1 : i ≤ 9998) :
    Calls Tryz.prog 94 #[.int .i64 (i : Int), .pointer (some ⟨b, 0, none⟩)] w fun e w' => e = .returned (.bool (decide (n < (bfN (i + 2) : Int) - 730119))) ∧ Below w.heap.size w w' := by
  have B := hide (fun W => before_any (i + 2) (by omega) (by omega) W)
  have s1 : IntKind.i64.wrap ((i : Int) + 2) = ((i + 2 : Nat) : Int) := (IntWalk.i64_in _ (by omega)).trans (by omega)
  have NE : Nonempty (OwnW w []) := ⟨⟨_, Own.start w⟩⟩
  have C1 := fun x : OwnW w [] => (x.own.1.cell (p := ⟨b, 0, none⟩) hb).trans hc
  clear hc
  generalize (bfN (i + 2) : Int) - 730119 = z at *
  generalize i + 2 = k at *
  go_enter Tryz.func94, Tryz.ntmps94
  go_wp2_with fail
  refine wp_region_own (w := w) (L := []) (by kernel_rfl) (by kernel_rfl) (Own.start w) ?_
  repeat (go_big_quiet_step ((rename_i y; with_reducible exact own_same (B.out _))))
  refine wpQuiet_nil ?_
  rintro W ⟨⟨W, HO⟩, rfl⟩
  go_wp2
  go_ret
  exact ⟨rfl, HO.1⟩
set_option maxRecDepth 100000 in
set_option maxHeartbeats 2000000 in
theorem years_any (n : Int) (b y : Nat) (w : World) (hb : b < w.heap.size) (hc : w.cell? ⟨b, 0, none⟩ = some (.int .i64 n)) (h1 : 1 ≤ y) (h2 : y ≤ 9999) (h3 : (bfN y : Int) - 730119 ≤ n) (h4 : n < (bfN (y + 1) : Int) - 730119) :
    Calls Tryz.prog 93 #[.int .i64 9999, .func (.func 94) #[] #[.pointer (some ⟨b, 0, none⟩)]] w fun e w' => e = .returned (.int .i64 ((y - 1 : Nat) : Int)) ∧ Below w.heap.size w w' := by
  have L := hide (fun (i : Nat) W hb hc h => later_any n b i W hb hc h)
  have LO := hide (fun (h : Nat) (e : decide (n < (bfN (h + 2) : Int) - 730119) = false) => (by
    have e := of_decide_eq_false e
    rcases Nat.lt_or_ge (h + 1) y with k | k
    · omega
    · have := bf_mono (show y + 1 ≤ h + 2 by omega); omega : h + 1 ≤ y - 1))
  have HI := hide (fun (h : Nat) (e : decide (n < (bfN (h + 2) : Int) - 730119) = true) => (by
    have e := of_decide_eq_true e
    rcases Nat.lt_or_ge h (y - 1) with k | k
    · have := bf_mono (show h + 2 ≤ y by omega); omega
    · exact k : y - 1 ≤ h))
  have HC := hide hc
  clear hc h3 h4
  go_enter Tryz.func93, Tryz.ntmps93
  go_wp2
  go_loopw [5, 6] (fun v5 v6 wr => ∃ lo hi : Nat, v5 = .int .i64 lo ∧ v6 = .int .i64 hi ∧ lo ≤ y - 1 ∧ y - 1 ≤ hi ∧ hi ≤ 9999 ∧ Hid (Below w.heap.size w wr)) (fun v5 v6 _ => (intOf v6).toNat - (intOf v5).toNat)
  case atStart => exact ⟨0, 9999, rfl, rfl, by omega, by omega, by omega, hide (Below.refl _ _)⟩
  case round =>
    obtain ⟨lo, hi, rfl, rfl, k1, k2, k3, HB⟩ := hrel
    by_cases hlt : lo < hi
    · obtain ⟨mid, hm⟩ : ∃ mid, mid = (lo + hi) / 2 := ⟨_, rfl⟩
      have F := hide (L.out mid wr (Nat.lt_of_lt_of_le hb HB.out.size) ((HB.out.cell (p := ⟨b, 0, none⟩) hb).trans HC.out) (by omega))
      have FL := hide (LO.out mid)
      have FH := hide (HI.out mid)
      have m0 : ((lo : Int) + (hi : Int)) / 2 = (mid : Int) := by omega
      have m1 : lo ≤ mid ∧ mid < hi := by omega
      generalize hd : decide (n < (bfN (mid + 2) : Int) - 730119) = dd at *
      clear hd hm L LO HI
      cases dd with
      | false =>
        have E := FL.out rfl
        clear FL FH
        go_wp2_with fail
        refine F.out.mono ?_
        rintro e w1 ⟨rfl, hb1⟩
        have HB1 := hide (below_via HB.out HB.out.size hb1)
        clear hb1
        go_wp2
        go_roundw
        case rel => exact ⟨mid + 1, hi, by go_num, rfl, E, k2, k3, HB1⟩
        case measure => simp [intOf]; omega
      | true =>
        have E := FH.out rfl
        clear FL FH
        go_wp2_with fail
        refine F.out.mono ?_
        rintro e w1 ⟨rfl, hb1⟩
        have HB1 := hide (below_via HB.out HB.out.size hb1)
        clear hb1
        go_wp2
        go_roundw
        case rel => exact ⟨lo, mid, rfl, rfl, k1, E, by omega, HB1⟩
        case measure => simp [intOf]; omega
    · obtain rfl : lo = y - 1 := by omega
      go_wp2
      go_ret
      exact ⟨rfl, HB.out⟩
end Go.Proofs.YtkjndkeboeieoaaGreatDoor
