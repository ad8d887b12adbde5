/- slices.Chunk of integers whose number is a multiple of the chunks' size: the iterator hands each chunk on, in order. -/
import Derived.RangeFuncNested
import Derived.RangeFuncBound
import Derived.RangeFuncCalls
import Derived.RangeFuncLeaves
import Derived.RangeFuncBox
import Derived.Shelf.Abstract
import Derived.WalkKit
import Derived.OwnWalkIn
import Derived.TacticsInMore
import Derived.LoopNIn
import Derived.LoopIn
import Derived.Test.YtkbocphpnmpaeaaGgGat
namespace Go.Proofs.Ytkbocphpnmpaeaa
open Go.RowKit Go.Shelf

attribute [local go_sem] Oper.semAt_some

/-- append in a fence: the new slice written out -/
theorem wpListIn_append_form {F : Fence} {n : Nat} {P : Program} (w : World) {ops : Array Oper} {rest : List Oper} {o : Oper} {a : Act} {Q : Exit → Act → World → Prop}
    (hg : o.guard = none) (s x : Operand) (t : TypeId) (hop : o.op = Op.call { callee := Callee.builtin Builtin.append, args := #[s, x], argTypes := #[t, t] })
    (base : Nat) (e : TypeId) (i : TypeInfo) (z : Value) (size bytes : Nat) (h1 : P.underlying t = some (.slice e)) (h2 : P.info? e = some i) (h3 : i.zero = some z) (h4 : i.size = size) (h5 : i.bytes = bytes) (h6 : z.cells.size = size) (h7 : 0 < size)
    (v : Value) (k : Nat) (xs : List Value) (hs : a.eval s = v) (hown : w.ownsRow base e size v k xs) (ad : Addr) (m c : Nat) (news : List Value) (hx : a.eval x = .slice (some ad) m c) (hn : news.length = m * size)
    (hc : ∀ j u, news[j]? = some u → w.cell? (ad.add j) = some u) (h1c : ∀ u ∈ news, u.oneCell' = true) (h0 : 0 < m) (b1 : k + m ≤ maxLen) (b2 : (k + m) * bytes ≤ 140737488355328) (b3 : base ≤ w.heap.size)
    (hK : ∀ g cap w', w'.ownsRow base e size (.slice (some ⟨g, 0, none⟩) (k + m) cap) (k + m) (xs ++ news) → w.grownBy w' v.ownBlock → wpListIn F n P ops Q rest (a.put o.dst (.slice (some ⟨g, 0, none⟩) (k + m) cap)) w') :
    wpListIn F n P ops Q (o :: rest) a w :=
  wpListIn_append_own w hg s x t hop base e i z size bytes h1 h2 h3 h4 h5 h6 h7 v k xs hs hown ad m c news hx hn hc h1c b1 b2 b3 (fun v' w' h g _ => by
    obtain ⟨g', c', rfl⟩ := row_form h (by omega)
    exact hK _ _ _ h g)
/-- what is no cells lies as it lay behind an append to a record in the making -/
theorem Gat.others {w W w4 : World} {B2 o : Nat} {fr q : Int} {R : List (Nat × TypeId × Array Value)} {KK : List (Nat × Obj)} {v v4 : Value} {n : Nat} {L : List Int} {tmp : Obj} (h : Gat w W B2 o fr q R KK v n L) (hg : (W.alloc tmp).grownBy w4 v.ownBlock) : KeepsOthers W (w4.setCell ⟨o, 2, none⟩ v4) :=
  ((KeepsOthers.alloc W tmp).trans (KeepsOthers.of_grownBy hg fun j x ej hj => by
    rcases (h.row.alloc tmp).2 with ⟨rfl, _⟩ | ⟨g, cap, cur, rfl, _, hgb, _⟩
    · simp [Value.ownBlock] at ej
    · obtain rfl : g = j := by simpa [Value.ownBlock] using ej
      rw [hgb] at hj; cases hj; rfl)).trans (KeepsOthers.setCell _ _ _)
/-- the two boxes lie as they lay -/
def KpB (Bs Bn : Nat) (W W' : World) : Prop := W'.heap[Bs]? = W.heap[Bs]? ∧ W'.heap[Bn]? = W.heap[Bn]?
theorem KpB.t {Bs Bn : Nat} {A B C : World} (h : KpB Bs Bn A B) (k : KpB Bs Bn B C) : KpB Bs Bn A C := ⟨k.1.trans h.1, k.2.trans h.2⟩
theorem KpB.cell {Bs Bn : Nat} {A B : World} (h : KpB Bs Bn A B) {i : Nat} : B.cell? ⟨Bs, i, none⟩ = A.cell? ⟨Bs, i, none⟩ ∧ B.cell? ⟨Bn, i, none⟩ = A.cell? ⟨Bn, i, none⟩ := ⟨World.cell?_of_block (a := ⟨Bs, i, none⟩) h.1, World.cell?_of_block (a := ⟨Bn, i, none⟩) h.2⟩
theorem KpB.b {Bs Bn : Nat} {w : World} (h1 : Bs < w.heap.size) (h2 : Bn < w.heap.size) (W : World) (l : Nat) (o o' : Obj) (hl : w.heap.size ≤ l) (_ : W.heap[l]? = some o) (_ : o.isCells = false) (_ : o.isWalk = false) : KpB Bs Bn W (W.putObj l o') := by
  have g := grownBy_putObj' W l o'
  have hk : ∀ b, b < w.heap.size → (W.putObj l o').heap[b]? = W.heap[b]? := fun b hb => by
    rcases Nat.lt_or_ge b W.heap.size with h | h
    · exact g.block b h (fun e => by injection e with e; omega)
    · have hlW := (Array.getElem?_eq_some_iff.1 ‹W.heap[l]? = some o›).1
      omega
  exact ⟨hk Bs h1, hk Bn h2⟩
/-- a chunk's value -/
abbrev chEnc (b off k x : Nat) : Value := .slice (some ⟨b, off + x * k, none⟩) k k
set_option maxRecDepth 100000 in
set_option maxHeartbeats 4000000 in
theorem chunk1_in (n : Nat) (hn : 1 ≤ n) (l Bs Bn b off len cap k m : Nat) (A : Option Addr) (hA : 0 < m → A = some ⟨b, off, none⟩) (hlen : len = m * k) (h1 : 1 ≤ k) (hcap : len ≤ cap) (h63 : len ≤ 10000) (hk63 : k ≤ 100000) (J Jx : List (Fin m) → World → Prop)
    (hY : ∀ (pre : List (Fin m)) (x : Fin m) (W : World), J pre W → pre.length < m → YieldAt Fence.wide (n - 1) Try.prog l #[chEnc b off k x.1] W fun e W' =>
      (e = .returned (.bool true) ∧ J (pre ++ [x]) W' ∧ KpB Bs Bn W W') ∨ (e = .returned (.bool false) ∧ Jx (pre ++ [x]) W'))
    (W : World) (hBs : W.cell? ⟨Bs, 0, none⟩ = some (.slice A len cap)) (hBn : W.cell? ⟨Bn, 0, none⟩ = some (.int .i64 (k : Int))) (hJd : ∀ pre W, J pre W → J pre W.drew) (h0 : J [] W) :
    CallsIn Fence.wide n Try.prog 54 #[.func (.yield l) #[] #[], .pointer (some ⟨Bs, 0, none⟩), .pointer (some ⟨Bn, 0, none⟩)] W fun e W' => (∃ v, e = .returned v) ∧
      ((∃ ys : List (Fin m), ys.map (·.1) = List.range m ∧ J ys W') ∨ (∃ pre : List (Fin m), (∃ j, j ≤ m ∧ pre.map (·.1) = List.range j) ∧ Jx pre W')) := by
  refine callsIn_of_wp Try.func54 rfl trivial ?_ rfl
  simp only [Try.ntmps54, List.size_toArray, List.length_cons, List.length_nil, Nat.reduceAdd, Nat.reduceSub, Array.replicate_succ, Array.replicate_zero, List.push_toArray, List.append_toArray, List.nil_append, List.cons_append]
  gi_wp2
  gi_loopw [4] (fun i wr => ∃ (j : Nat) (pre : List (Fin m)), j ≤ m ∧ i = .int .i64 ((j * k : Nat) : Int) ∧ Hid (J pre wr ∧ KpB Bs Bn W wr ∧ pre.map (·.1) = List.range j))
    (fun i _ => len - (intOf i).toNat)
  case atStart => exact ⟨0, [], Nat.zero_le _, by simp, hide ⟨h0, ⟨rfl, rfl⟩, rfl⟩⟩
  case round =>
    obtain ⟨j, pre, hj, rfl, Y⟩ := hrel
    have cS := Y.out.2.1.cell.1.trans hBs
    have cN := Y.out.2.1.cell.2.trans hBn
    have hm1 : (j + 1) * k = j * k + k := by rw [Nat.add_mul, Nat.one_mul]
    by_cases hlt : j < m
    · have hle : (j + 1) * k ≤ m * k := Nat.mul_le_mul_right k hlt
      obtain rfl := hA (by omega)
      have hpl : pre.length = j := by have := congrArg List.length Y.out.2.2; simpa using this
      obtain ⟨fn, tmps, assign, body, hy, hR⟩ := hY pre ⟨j, hlt⟩ wr.drew (hJd _ _ Y.out.1) (by omega)
      dsimp only [chEnc] at hy
      have HM := hide hm1
      have HLEN := hide hlen
      rw [← hlen] at hle
      clear hlen
      generalize hI : j * k = I at *
      have HI := hide hI
      clear hI
      have i1 : I + k ≤ len := by omega
      have q0 : (I : Int) < (len : Int) := by omega
      have q1 : ¬ cap = I := by omega
      have q2 : ¬ (cap : Int) = (I : Int) := by omega
      have t1 : ((I : Int)).toNat = I := by omega
      have s1 := IntWalk.i64_in ((I : Int) + (k : Int)) (by omega)
      have s2 : min (k : Int) ((len - I : Nat) : Int) = (k : Int) := by omega
      have t2 : ((I : Int) + (k : Int)).toNat = I + k := by omega
      clear hle hY hA hm1
      gi_wp2
      gi_region
      gi_wp2
      refine hR.mono ?_
      rintro e W3 (⟨rfl, hJ3, hk3⟩ | ⟨rfl, hJx3⟩)
      · have B3 : KpB Bs Bn W W3 := KpB.t (B := wr.drew) Y.out.2.1 hk3
        have cN3 := B3.cell.2.trans hBn
        have E : (pre ++ [(⟨j, hlt⟩ : Fin m)]).map (fun x : Fin m => x.1) = List.range (j + 1) := by rw [List.map_append, Y.out.2.2, List.range_succ]; rfl
        have Z := hide (And.intro hJ3 (And.intro B3 E))
        clear hJ3 hk3 B3 E hy cS cN
        gi_wp2
        go_roundw
        case rel => exact ⟨j + 1, pre ++ [⟨j, hlt⟩], hlt, by rw [HM.out]; go_num, Z⟩
        case measure => simp [intOf]; omega
      · gi_wp2
        refine bodyPost_ret (results_none rfl _ _ _) rfl ?_
        exact ⟨⟨_, rfl⟩, .inr ⟨_, ⟨j + 1, hlt, by rw [List.map_append, Y.out.2.2, List.range_succ]; rfl⟩, hJx3⟩⟩
    · have e : j = m := by omega
      subst e
      have q0 : ¬ (((j * k : Nat) : Int) < (len : Int)) := by omega
      gi_wp2
      go_end0
      exact ⟨⟨_, rfl⟩, .inl ⟨pre, Y.out.2.2, Y.out.1⟩⟩
set_option maxHeartbeats 1000000 in
/-- slices.Chunk boxes the slice and the size; the function value holds the two boxes -/
theorem chunk_in (n : Nat) (A : Option Addr) (len cap k : Nat) (h1 : 1 ≤ k) (w : World) :
    CallsIn Fence.wide n Try.prog 40 #[.slice A len cap, .int .i64 (k : Int)] w fun e w' => e = .returned (.func (.func 54) #[] #[.pointer (some ⟨w.heap.size, 0, none⟩), .pointer (some ⟨w.heap.size + 1, 0, none⟩)]) ∧ w' = (w.alloc (.cells #[.slice A len cap] 22)).alloc (.cells #[.int .i64 (k : Int)] 3) := by
  have k1 : ¬ ((k : Int) < 1) := by omega
  have X := ((Own.start w).alloc #[.slice A len cap] 22).alloc #[.int .i64 (k : Int)] 3
  simp only [World.size_alloc] at X
  have hr := X.r2
  clear X
  refine callsIn_of_wp Try.func40 rfl trivial ?_ rfl
  simp only [Try.ntmps40, List.size_toArray, List.length_cons, List.length_nil, Nat.reduceAdd, Nat.reduceSub, Array.replicate_succ, Array.replicate_zero, List.push_toArray, List.append_toArray, List.nil_append, List.cons_append]
  gi_wp2
  go_ret
  exact ⟨rfl, rfl⟩
theorem grown_drew (w : World) (row : Option Nat) : w.grownBy w.drew row := ⟨rfl, rfl, rfl, Nat.le_refl _, fun _ _ _ => rfl⟩
/-- the iterator hands each chunk on, in order -/
theorem chunk_stops (n : Nat) (hn : 1 ≤ n) (Bs Bn b off len cap k m : Nat) (A : Option Addr) (hA : 0 < m → A = some ⟨b, off, none⟩) (hlen : len = m * k) (h1 : 1 ≤ k) (hcap : len ≤ cap) (h63 : len ≤ 10000) (hk63 : k ≤ 100000) (w : World)
    (hBs : w.cell? ⟨Bs, 0, none⟩ = some (.slice A len cap)) (hBn : w.cell? ⟨Bn, 0, none⟩ = some (.int .i64 (k : Int))) :
    SeqStopsK Fence.wide n Try.prog 54 #[.pointer (some ⟨Bs, 0, none⟩), .pointer (some ⟨Bn, 0, none⟩)] (fun x : Fin m => #[chEnc b off k x.1]) (KpB Bs Bn) (fun ys => ys.map (fun x : Fin m => x.1) = List.range m) (fun pre => ∃ j, j ≤ m ∧ pre.map (fun x : Fin m => x.1) = List.range j) m w := fun l J Jx W hW hJ _ hY h0 =>
  chunk1_in n hn l Bs Bn b off len cap k m A hA hlen h1 hcap h63 hk63 J Jx hY W ((hW.cell (p := ⟨Bs, 0, none⟩) (lt_of_cell hBs)).trans hBs) ((hW.cell (p := ⟨Bn, 0, none⟩) (lt_of_cell hBn)).trans hBn)
    (fun pre W h => hJ pre W W.drew none h (grown_drew W none) (fun r e => by cases e)) h0
end Go.Proofs.Ytkbocphpnmpaeaa
