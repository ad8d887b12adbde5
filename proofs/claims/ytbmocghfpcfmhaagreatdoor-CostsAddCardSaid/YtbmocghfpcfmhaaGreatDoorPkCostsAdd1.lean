/- Parts of one proof, joined: slices.Grow, slices.Concat and slices.Reverse at items; nothing that was there is turned. slices.Reverse at a row of items of the call's own: the same items; nothing that was there is turned. The law CostsAdd returns true for all bills; nothing that was there is turned. The law CostsAdd at two valid bills. -/
import Derived.Test.YtbmocghfpcfmhaaGreatDoorPkCostsBills3
import Derived.Lib.AppendZeros
namespace Go.Proofs.YtbmocghfpcfmhaaGreatDoor
open Go Go.RowKit

def RowPost (l : List Itm) (w : World) (e : Ending) (w' : World) : Prop := Below w.heap.size w w' ∧ ∃ v, e = .returned v ∧ w'.ownsRow w.heap.size 54 3 v l.length (flatItm l)
/-- append of n zero values to nil, as a law for the walk -/
theorem wpList_append_zeros {P : Program} {w : World} {ops : Array Oper} {rest : List Oper} {o : Oper} {a : Act} {Q : Exit → Act → World → Prop} (hgd : o.guard = none) (s x : Operand) (t tn : TypeId)
    (ho : o.op = .call { callee := .builtin .append, args := #[s, x], argTypes := #[t, tn] })
    (e : TypeId) (i : TypeInfo) (z : Value) (k kn : IntKind) (ht : P.underlying t = some (.slice e)) (htn : P.underlying tn = some (.int kn)) (hi : P.info? e = some i) (hz : i.zero = some z)
    (n : Nat) (h0 : 0 < n) (hsz : 0 < i.size) (h63 : (n : Int) ≤ 9223372036854775807) (h48 : n * i.bytes ≤ 281474976710656)
    (hs : a.eval s = .slice none 0 0) (hx : a.eval x = .int k n)
    (h : wpList P ops Q rest (a.put o.dst (.slice (some ⟨w.heap.size, 0, none⟩) n (grownCap w n 0 e))) (w.drew.alloc (.cells (Builtin.zeroCells z.cells n ++ Builtin.zeroCells z.cells (grownCap w n 0 e - n)) e))) : wpList P ops Q (o :: rest) a w := by
  refine wpList_plain hgd fun K hK => ?_
  have hrun := Lib.run_append_nil_zeros (P := P) w t tn o.type e i z k kn ht htn hi hz n h0 hsz h63 h48
  unfold Oper.wp
  simp [execOp, ho, resolve, invoke, builtin, hs, hx, hrun, Result.andThen]
  exact hK _ _ h
set_option maxRecDepth 100000 in
set_option maxHeartbeats 2000000 in
theorem grow_any (n : Nat) (w : World) (hn : n ≤ 2000) : Calls Tryz.prog 52 #[.slice none 0 0, .int .i64 (n : Int)] w (RowPost [] w) := by
  obtain ⟨i0, hi0, hz0, hz1, hz2⟩ := info_parts itm_info
  have g1 : ¬ (n : Int) < 0 := by omega
  by_cases h0 : n = 0
  · subst h0
    have HP := hide (show RowPost [] w (.returned (.slice none 0 0)) w from ⟨Below.refl _ _, _, rfl, World.ownsRow_nil _ _ _ _⟩)
    go_enter Tryz.func52, Tryz.ntmps52
    go_wp2
    go_ret
    exact HP.out
  · have g2 : decide (0 < (n : Int)) = true := decide_eq_true (by omega)
    have cb := grownCap_le_maxLen w n 0 54 (by unfold maxLen; omega)
    have cg := grownCap_ge w n 0 54
    have RM : ∀ c : Nat, n ≤ c → c ≤ maxLen → Hid (RowPost [] w (.returned (.slice (some ⟨w.heap.size, 0, none⟩) 0 c)) (w.drew.alloc (.cells (Builtin.zeroCells (Value.agg #[.string ⟨#[]⟩, .int .i64 0, .int .i64 0]).cells n ++ Builtin.zeroCells (Value.agg #[.string ⟨#[]⟩, .int .i64 0, .int .i64 0]).cells (c - n)) 54))) := fun c h1 h2 =>
      hide ⟨(Below.refl _ w).drew.alloc (Nat.le_refl _) _, _, rfl, World.ownsRow_made w.drew _ c (Nat.le_refl _) h2 (by rw [Array.size_append, size_zeroCells, size_zeroCells]; simp [Value.cells]; omega)⟩
    have HP := RM (grownCap w n 0 54) cg cb
    generalize hc : grownCap w n 0 54 = c at *
    go_enter Tryz.func52, Tryz.ntmps52
    go_wp2_with (at_builtin; refine wpList_append_zeros rfl _ _ 40 3 rfl 54 i0 (.agg #[.string ⟨#[]⟩, .int .i64 0, .int .i64 0]) .i64 .i64 Tryz.underlying40 Tryz.underlying3 hi0 hz0 n (by omega) (by omega) (by omega) (by rw [hz2]; omega) rfl rfl ?_)
    go_ret
    exact HP.out
def twoN (a b : List Itm) (k : Nat) : Nat := if k = 0 then 0 else if k = 1 then a.length else a.length + b.length
def twoR (a b : List Itm) (k : Nat) : List Itm := if k = 0 then [] else if k = 1 then a else a ++ b
set_option maxRecDepth 100000 in
set_option maxHeartbeats 4000000 in
theorem concat_any (a b : List Itm) (A B : Option Addr) (c c' p : Nat) (w : World) (ha : ItmSl w A a) (hb : ItmSl w B b) (l1 : a.length ≤ 1000) (l2 : b.length ≤ 1000) (hp : p < w.heap.size)
    (p0 : w.cell? ⟨p, 0, none⟩ = some (.slice A a.length c)) (p1 : w.cell? ⟨p, 1, none⟩ = some (.slice B b.length c')) :
    Calls Tryz.prog 21 #[.slice (some ⟨p, 0, none⟩) 2 2] w (ItmPost (a ++ b) w) := by
  obtain ⟨i0, hi0, hz0, hz1, hz2⟩ := info_parts itm_info
  have GR := hide (fun n W h => grow_any n W h)
  unfold RowPost at GR
  have H1 := hide ha
  have H2 := hide hb
  have NM : Hid (∀ i (h : i < (a ++ b).length), (a ++ b)[i].nm.size ≤ maxLen) := hide (fun i hi => by
    rcases List.mem_append.1 (List.getElem_mem hi) with h | h
    · obtain ⟨j, hj, e⟩ := List.mem_iff_getElem.1 h
      rw [← e]; exact ha.1.2 j hj
    · obtain ⟨j, hj, e⟩ := List.mem_iff_getElem.1 h
      rw [← e]; exact hb.1.2 j hj)
  have CP := hide (fun W (h : Below w.heap.size w W) => And.intro ((h.cell (p := ⟨p, 0, none⟩) hp).trans p0) ((h.cell (p := ⟨p, 1, none⟩) hp).trans p1))
  have TN0 : Hid (twoN a b 0 = 0 ∧ twoN a b 1 = a.length ∧ twoN a b 2 = a.length + b.length) := hide ⟨rfl, rfl, rfl⟩
  have TR0 : Hid (twoR a b 0 = [] ∧ twoR a b 1 = a ∧ twoR a b 2 = a ++ b) := hide ⟨rfl, rfl, rfl⟩
  have f4a := flatItm_one a
  have f4b := flatItm_one b
  have FA := hide (flatItm_append a b)
  have LA : Hid ((a ++ b).length = a.length + b.length) := hide (by simp)
  clear ha hb p0 p1
  go_enter Tryz.func21, Tryz.ntmps21
  go_wp2
  go_loopw [3, 11] (fun v3 v11 wr => ∃ k : Nat, k ≤ 2 ∧ v11 = .int .i64 (k : Int) ∧ v3 = .int .i64 (twoN a b k : Nat) ∧ Hid (Below w.heap.size w wr)) (fun _ v _ => 2 - (intOf v).toNat)
  case atStart => exact ⟨0, by omega, rfl, by rw [TN0.out.1]; rfl, hide (Below.refl _ _)⟩
  case round =>
    obtain ⟨k, hk, rfl, rfl, HB⟩ := hrel
    obtain ⟨c0, c1⟩ := CP.out _ HB.out
    obtain rfl | rfl | rfl : k = 0 ∨ k = 1 ∨ k = 2 := by omega
    · rw [TN0.out.1]
      go_wp2
      go_roundw
      case rel => exact ⟨1, by omega, rfl, by rw [TN0.out.2.1], HB⟩
      case measure => simp [intOf]
    · rw [TN0.out.2.1]
      have q1 : IntKind.i64.wrap ((a.length : Int) + (b.length : Int)) = (a.length : Int) + (b.length : Int) := IntWalk.i64_in _ (by omega)
      have q2 : ¬ (a.length : Int) + (b.length : Int) < 0 := by omega
      go_wp2
      go_roundw
      case rel => exact ⟨2, by omega, rfl, by rw [TN0.out.2.2]; simp, HB⟩
      case measure => simp [intOf]
    · rw [TN0.out.2.2]
      obtain ⟨w1, rfl⟩ : ∃ z, z = wr := ⟨_, rfl⟩
      have GRk := hide (GR.out (a.length + b.length) w1 (by omega))
      have wl0 := HB.out.size
      go_wp2_with fail
      refine GRk.out.mono ?_
      rintro e w2 ⟨hb, v0, rfl, hrow⟩
      have XH := hide (And.intro hb (show w2.ownsRow w1.heap.size 54 3 v0 (twoR a b 0).length (flatItm (twoR a b 0)) by rw [TR0.out.1]; exact hrow))
      clear hb hrow GRk GR c0 c1
      go_wp2
      go_loopw [6, 27] (fun v6 v27 wr => ∃ k : Nat, k ≤ 2 ∧ v27 = .int .i64 (k : Int) ∧ Hid (Below w1.heap.size w1 wr ∧ wr.ownsRow w1.heap.size 54 3 v6 (twoR a b k).length (flatItm (twoR a b k)))) (fun _ v _ => 2 - (intOf v).toNat)
      case atStart => exact ⟨0, by omega, rfl, XH⟩
      case round =>
        clear XH
        obtain ⟨k, hk, rfl, HY⟩ := hrel
        have B3 := hide (below_via HB.out wl0 HY.out.1)
        obtain ⟨c0, c1⟩ := CP.out _ B3.out
        obtain rfl | rfl | rfl : k = 0 ∨ k = 1 ∨ k = 2 := by omega
        · rw [TR0.out.1] at HY
          have R3 := hide (show wr.ownsRow w1.heap.size 54 3 u6 0 [] from HY.out.2)
          have RB := hide (reads_itm (H1.out.below B3.out))
          have f1 : 0 + a.length ≤ maxLen := by unfold maxLen; omega
          have f2 : (0 + a.length) * 32 ≤ 140737488355328 := by omega
          have f5 : w1.heap.size ≤ wr.heap.size := HY.out.1.size
          have BB := hide HY.out.1
          clear HY
          go_wp2_with (at_builtin; refine wpList_append_any _ rfl _ _ 40 rfl w1.heap.size 54 i0 (.agg #[.string ⟨#[]⟩, .int .i64 0, .int .i64 0]) 3 32 Tryz.underlying40 hi0 hz0 hz1 hz2 rfl (by decide) _ 0 [] rfl R3.out _ A a.length c (flatItm a) rfl RB.out f4a f1 f2 f5 ?_; intro v5 w5 hown5 hgrow hnil)
          have B5 := BB.out.grown hgrow BB.out.size (fun j hj => (R3.out.lt j hj).1)
          have HZ : Hid (Below w1.heap.size w1 w5 ∧ w5.ownsRow w1.heap.size 54 3 v5 (twoR a b 1).length (flatItm (twoR a b 1))) := hide ⟨B5, by rw [TR0.out.2.1]; simpa using hown5⟩
          clear hown5 hgrow hnil B5 R3 RB BB
          go_roundw
          case rel => exact ⟨1, by omega, rfl, HZ⟩
          case measure => simp [intOf]
        · rw [TR0.out.2.1] at HY
          have R3 := hide HY.out.2
          have RB := hide (reads_itm (H2.out.below B3.out))
          have f1 : a.length + b.length ≤ maxLen := by unfold maxLen; omega
          have f2 : (a.length + b.length) * 32 ≤ 140737488355328 := by omega
          have f5 : w1.heap.size ≤ wr.heap.size := HY.out.1.size
          have BB := hide HY.out.1
          clear HY
          go_wp2_with (at_builtin; refine wpList_append_any _ rfl _ _ 40 rfl w1.heap.size 54 i0 (.agg #[.string ⟨#[]⟩, .int .i64 0, .int .i64 0]) 3 32 Tryz.underlying40 hi0 hz0 hz1 hz2 rfl (by decide) _ a.length (flatItm a) rfl R3.out _ B b.length c' (flatItm b) rfl RB.out f4b f1 f2 f5 ?_; intro v5 w5 hown5 hgrow hnil)
          have B5 := BB.out.grown hgrow BB.out.size (fun j hj => (R3.out.lt j hj).1)
          have HZ : Hid (Below w1.heap.size w1 w5 ∧ w5.ownsRow w1.heap.size 54 3 v5 (twoR a b 2).length (flatItm (twoR a b 2))) := hide ⟨B5, by rw [TR0.out.2.2, FA.out, LA.out]; exact hown5⟩
          clear hown5 hgrow hnil B5 R3 RB BB
          go_roundw
          case rel => exact ⟨2, by omega, rfl, HZ⟩
          case measure => simp [intOf]
        · rw [TR0.out.2.2] at HY
          obtain ⟨A4, c4, e4, IS⟩ := ItmSl.of_row HY.out.2 NM.out
          have e4 : _ = Value.slice A4 (a ++ b).length c4 := e4
          subst e4
          have HP := hide (show ItmPost (a ++ b) w (.returned (.slice A4 (a ++ b).length c4)) wr from ⟨B3.out, A4, c4, rfl, IS⟩)
          clear HY IS NM
          go_wp2
          go_ret
          exact HP.out
theorem flatItm_put : ∀ (l : List Itm) (i : Nat) (_ : i < l.length) (x : Itm), (((flatItm l).set (i * 3) (.string x.nm)).set (i * 3 + 1) (.int .i64 x.am)).set (i * 3 + 2) (.int .i64 x.pr) = flatItm (l.set i x)
  | [], _, h, _ => absurd h (by simp)
  | c :: l, 0, _, x => rfl
  | c :: l, i + 1, h, x => by
    have ih := flatItm_put l i (by simpa using h) x
    have e : ∀ (c : Itm) l, flatItm (c :: l) = c.cs ++ flatItm l := fun _ _ => rfl
    rw [List.set_cons_succ, e, e, List.set_append_right _ _ (by simp; omega), List.set_append_right _ _ (by simp; omega), List.set_append_right _ _ (by simp; omega)]
    rw [← ih]
    congr 1
    simp only [Itm.cs, List.length_cons, List.length_nil]
    rw [show (i + 1) * 3 - (0 + 1 + 1 + 1) = i * 3 by omega, show (i + 1) * 3 + 1 - (0 + 1 + 1 + 1) = i * 3 + 1 by omega, show (i + 1) * 3 + 2 - (0 + 1 + 1 + 1) = i * 3 + 2 by omega]
/-- two items change places -/
def swpI (l : List Itm) (i j : Nat) : List Itm := (l.set i (itA l j)).set j (itA l i)
theorem swpI_len (l : List Itm) (i j : Nat) : (swpI l i j).length = l.length := by simp [swpI]
theorem swpI_mem {l : List Itm} {i j : Nat} (hi : i < l.length) (hj : j < l.length) {x : Itm} (h : x ∈ swpI l i j) : x ∈ l := by
  unfold swpI at h
  rcases List.mem_or_eq_of_mem_set h with h | h
  · rcases List.mem_or_eq_of_mem_set h with h | h
    · exact h
    · rw [h, itA_at hj]; exact List.getElem_mem hj
  · rw [h, itA_at hi]; exact List.getElem_mem hi
theorem swpI_cs {l : List Itm} {i j : Nat} (hi : i < l.length) (hj : j < l.length) (hij : i < j) : csS (swpI l i j) = csS l := by
  unfold swpI
  rw [csS_set _ j (by simpa using hj), csS_set _ i hi]
  have e : (l.set i (itA l j))[j]'(by simpa using hj) = l[j] := by rw [List.getElem_set_ne (by omega)]
  rw [e, itA_at hi, itA_at hj]
  omega
/-- a list with the same items -/
structure LikeI (l S : List Itm) : Prop where
  len : S.length = l.length
  cs : csS S = csS l
  mem : ∀ x ∈ S, x ∈ l
theorem LikeI.refl (l : List Itm) : LikeI l l := ⟨rfl, rfl, fun _ h => h⟩
theorem LikeI.swp {l S : List Itm} (h : LikeI l S) {i j : Nat} (hi : i < S.length) (hj : j < S.length) (hij : i < j) : LikeI l (swpI S i j) :=
  ⟨by rw [swpI_len]; exact h.len, by rw [swpI_cs hi hj hij]; exact h.cs, fun x hx => h.mem x (swpI_mem hi hj hx)⟩
end Go.Proofs.YtbmocghfpcfmhaaGreatDoor

namespace Go.Proofs.YtbmocghfpcfmhaaGreatDoor
open Go Go.RowKit

def RevPost (B : Nat) (l : List Itm) (A : Option Addr) (c : Nat) (w : World) (e : Ending) (w' : World) : Prop :=
  e = .returned (.tuple #[]) ∧ Below B w w' ∧ ∃ S, LikeI l S ∧ w'.ownsRow B 54 3 (.slice A l.length c) l.length (flatItm S)
theorem row_put3 {w : World} {base : Nat} {e : TypeId} {n g cap : Nat} {S : List Itm} (h : w.ownsRow base e 3 (.slice (some ⟨g, 0, none⟩) n cap) n (flatItm S)) {i : Nat} (hi : i < S.length) (x : Itm) :
    (((w.setCell ⟨g, i * 3, none⟩ (.string x.nm)).setCell ⟨g, i * 3 + 1, none⟩ (.int .i64 x.am)).setCell ⟨g, i * 3 + 2, none⟩ (.int .i64 x.pr)).ownsRow base e 3 (.slice (some ⟨g, 0, none⟩) n cap) n (flatItm (S.set i x)) := by
  have h1 := row_put (row_put (row_put h (i * 3) (.string x.nm)) (i * 3 + 1) (.int .i64 x.am)) (i * 3 + 2) (.int .i64 x.pr)
  rw [flatItm_put S i hi x] at h1
  exact h1
set_option maxRecDepth 100000 in
set_option maxHeartbeats 4000000 in
theorem reverse_any (l : List Itm) (A : Option Addr) (c B : Nat) (w : World) (h : w.ownsRow B 54 3 (.slice A l.length c) l.length (flatItm l)) (hn : l.length ≤ 1000) :
    Calls Tryz.prog 23 #[.slice A l.length c] w (RevPost B l A c w) := by
  have HR := hide h
  have w0 : IntKind.i64.wrap ((l.length : Int) - 1) = (l.length : Int) - 1 := IntWalk.i64_in _ (by omega)
  clear h
  go_enter Tryz.func23, Tryz.ntmps23
  go_wp2
  go_loopw [2, 3] (fun v2 v3 wr => ∃ i : Nat, i ≤ l.length ∧ v2 = .int .i64 (i : Int) ∧ v3 = .int .i64 ((l.length : Int) - 1 - (i : Int)) ∧ Hid (Below B w wr ∧ ∃ S, LikeI l S ∧ wr.ownsRow B 54 3 (.slice A l.length c) l.length (flatItm S))) (fun v _ _ => l.length - (intOf v).toNat)
  case atStart => exact ⟨0, by omega, rfl, by simp, hide ⟨Below.refl _ _, l, LikeI.refl l, HR.out⟩⟩
  case round =>
    clear HR
    obtain ⟨i, hi, rfl, rfl, HY⟩ := hrel
    by_cases hlt : (i : Int) < (l.length : Int) - 1 - (i : Int)
    · have g1 : decide ((i : Int) < (l.length : Int) - 1 - (i : Int)) = true := decide_eq_true hlt
      obtain ⟨j, hj⟩ : ∃ j : Nat, (l.length : Int) - 1 - (i : Int) = (j : Int) := ⟨((l.length : Int) - 1 - (i : Int)).toNat, by omega⟩
      rw [hj] at g1 hlt ⊢
      have hj2 : i + j + 1 = l.length := by omega
      have hij : i < j := by omega
      obtain ⟨S, HS, hrow⟩ := HY.out.2
      have hBl := HY.out.1
      have hS := HS.len
      have hiS : i < S.length := by omega
      have hjS : j < S.length := by omega
      obtain ⟨g, cur, rfl, hg, hB, hc⟩ := row_blk hrow (by omega)
      have hgl := hB.lt
      obtain ⟨a0, a1, a2⟩ := flatItm_at S i hiS
      obtain ⟨b0, b1, b2⟩ := flatItm_at S j hjS
      have a0 := (hB.cell (i * 3)).trans (hc _ _ a0)
      have a1 := (hB.cell (i * 3 + 1)).trans (hc _ _ a1)
      have a2 := (hB.cell (i * 3 + 2)).trans (hc _ _ a2)
      have b0 := (hB.cell (j * 3)).trans (hc _ _ b0)
      have b1 := (hB.cell (j * 3 + 1)).trans (hc _ _ b1)
      have b2 := (hB.cell (j * 3 + 2)).trans (hc _ _ b2)
      have fr := hB.frozen
      have HX := hide (And.intro hBl (And.intro HS (And.intro hrow hg)))
      have EQ : Hid (swpI S i j = (S.set i S[j]).set j S[i]) := hide (by unfold swpI; rw [itA_at hiS, itA_at hjS])
      have i0 : (0 : Int) ≤ (i : Int) := by omega
      have i1 : (i : Int) < (l.length : Int) := by omega
      have j0 : (0 : Int) ≤ (j : Int) := by omega
      have j1 : (j : Int) < (l.length : Int) := by omega
      generalize S[i] = x at *
      generalize S[j] = y at *
      clear hB hc HS hrow HY hBl hg
      go_upto_region 3 with (fail)
      go_region
      all_goals
        have hB6 := below_set (below_set (below_set (below_set (below_set (below_set HX.out.1 HX.out.2.2.2 (o := i * 3) (.string y.nm)) HX.out.2.2.2 (o := i * 3 + 1) (.int .i64 y.am)) HX.out.2.2.2 (o := i * 3 + 2) (.int .i64 y.pr)) HX.out.2.2.2 (o := j * 3) (.string x.nm)) HX.out.2.2.2 (o := j * 3 + 1) (.int .i64 x.am)) HX.out.2.2.2 (o := j * 3 + 2) (.int .i64 x.pr)
        have hR6 := row_put3 (row_put3 HX.out.2.2.1 hiS y) (by simpa using hjS) x
        rw [← EQ.out] at hR6
        have HZ := hide (And.intro hB6.drew (And.intro (LikeI.swp HX.out.2.1 hiS hjS hij) (row_drew hR6)))
        clear hB6 hR6 HX EQ a0 a1 a2 b0 b1 b2 fr
        have q1 : IntKind.i64.wrap ((j : Int) - 1) = (j : Int) - 1 := IntWalk.i64_in _ (by omega)
        go_wp2
        go_roundw
        case rel => exact ⟨i + 1, by omega, by go_num, by congr 1; omega, hide ⟨HZ.out.1, _, HZ.out.2.1, HZ.out.2.2⟩⟩
        case measure => simp [intOf]; omega
    · have g1 : decide ((i : Int) < (l.length : Int) - 1 - (i : Int)) = false := decide_eq_false hlt
      obtain ⟨S, HS, hrow⟩ := HY.out.2
      have HP := hide (show RevPost B l A c w (.returned (.tuple #[])) wr from ⟨rfl, HY.out.1, S, HS, hrow⟩)
      clear HY HS hrow
      go_wp2
      go_end0
      exact HP.out
end Go.Proofs.YtbmocghfpcfmhaaGreatDoor

namespace Go.Proofs.YtbmocghfpcfmhaaGreatDoor
open Go Go.RowKit

theorem biE_of {a S : List Itm} (hv : vI a = true) (h : LikeI a S) : biE S = biE a ∧ biV S = biV a := by
  obtain ⟨l1, v1⟩ := vI_iff.1 hv
  have hS : vI S = true := vI_iff.2 ⟨by rw [h.len]; exact l1, fun x hx => v1 x (h.mem x hx)⟩
  have e : biE S = biE a := by unfold biE; rw [hS, hv, h.cs]
  exact ⟨e, by unfold biV; rw [e, h.cs]⟩
theorem biE_cs {l : List Itm} (hv : vI l = true) (h : biE l = 0) : biV l = csS l ∧ -1152921504606846976 ≤ csS l ∧ csS l ≤ 1152921504606846976 := by
  refine ⟨by unfold biV; rw [if_pos h], ?_⟩
  unfold biE at h
  rw [if_pos hv] at h
  by_cases c : -1152921504606846976 ≤ csS l ∧ csS l ≤ 1152921504606846976
  · exact c
  · rw [if_neg c] at h; cases h
theorem biE_same {l m : List Itm} (h1 : vI l = true) (h2 : vI m = true) (h : csS m = csS l) : biE m = biE l ∧ biV m = biV l := by
  have e : biE m = biE l := by unfold biE; rw [h1, h2, h]
  exact ⟨e, by unfold biV; rw [e, h]⟩
theorem biE_ways (l : List Itm) : (biE l == 0) = true ∨ (biE l == 0) = false := by cases (biE l == 0) <;> simp
theorem vI_app {a b : List Itm} (h1 : vI a = true) (h2 : vI b = true) (hn : a.length + b.length ≤ 1000) : vI (a ++ b) = true := by
  obtain ⟨_, v1⟩ := vI_iff.1 h1
  obtain ⟨_, v2⟩ := vI_iff.1 h2
  refine vI_iff.2 ⟨by rw [List.length_append]; exact hn, fun x hx => ?_⟩
  rcases List.mem_append.1 hx with h | h
  · exact v1 x h
  · exact v2 x h
theorem vI_opp {a : List Itm} (h : vI a = true) : vI (oppL a) = true := by
  obtain ⟨l1, v1⟩ := vI_iff.1 h
  refine vI_iff.2 ⟨by simpa [oppL] using l1, fun x hx => ?_⟩
  obtain ⟨y, hy, rfl⟩ := List.mem_map.1 hx
  exact itB_opp (v1 y hy)
theorem opp_len (a : List Itm) : (oppL a).length = a.length := by simp [oppL]
theorem cm_of {a b : List Itm} (h1 : vI a = true) (h2 : vI b = true) (hn : a.length + b.length ≤ 1000) : cmE a b = mgE (b ++ oppL a) ∧ cmL a b = mgL (b ++ oppL a) := by
  have hv : (vI a && vI b) = true := by rw [h1, h2]; rfl
  unfold cmE cmL
  rw [if_pos hv, if_pos hv, if_neg (by omega), if_neg (by omega)]
  exact ⟨rfl, rfl⟩
/-- all that the law asks of two valid bills -/
structure AddF (a b : List Itm) : Prop where
  both : biE a = 0 → biE b = 0 → biE (a ++ b) = 0 → biV (a ++ b) = biV a + biV b
  none1 : cmE a a = 0 ∨ cmE a a = 5
  none2 : cmL a a = []
  m1 : meE a = 0 ∨ meE a = 5
  m2 : meE a = 0 → biE (meL a) = biE a ∧ biV (meL a) = biV a ∧ meE (meL a) = 0 ∧ meL (meL a) = meL a ∧ (meL a).length ≤ a.length
  d1 : cmE a b = 0 ∨ cmE a b = 5
  d2 : cmE a b = 0 → biE a = 0 → biE b = 0 → biE (cmL a b) = 0 → biV (cmL a b) = biV b - biV a
theorem addF {a b : List Itm} (h1 : vI a = true) (h2 : vI b = true) (n1 : a.length ≤ 30) (n2 : b.length ≤ 30) : AddF a b := by
  have hab := vI_app h1 h2 (by omega)
  have ma : meE a = mgE a := by unfold meE; rw [if_pos h1]
  have mb : meL a = mgL a := by unfold meL; rw [if_pos h1]
  obtain ⟨ca, cb⟩ := cm_of h1 h2 (by omega)
  obtain ⟨na, nb⟩ := cm_of h1 h1 (by omega)
  have hd := vI_app h2 (vI_opp h1) (by rw [opp_len]; omega)
  refine ⟨fun e f g => ?_, ?_, ?_, ?_, fun e => ?_, ?_, fun e f g o => ?_⟩
  · rw [(biE_cs h1 e).1, (biE_cs h2 f).1, (biE_cs hab g).1, csS_append]
  · rw [na]; exact mgE_cases _
  · rw [nb]; unfold mgL; rw [mgO_self]; simp
  · rw [ma]; exact mgE_cases _
  · rw [ma] at e
    have el : meL a = mgO a := by rw [mb]; unfold mgL; rw [if_pos e]
    rw [el]
    have hv := mgO_v h1 e
    obtain ⟨s1, s2⟩ := biE_same h1 hv (csS_mgO a)
    have ag := mgE_again e
    have e2 : meE (mgO a) = 0 := by unfold meE; rw [if_pos hv]; exact ag
    have e3 : meL (mgO a) = mgO a := by unfold meL; rw [if_pos hv]; unfold mgL; rw [if_pos ag, mgO_id]
    exact ⟨s1, s2, e2, e3, mgO_len a⟩
  · rw [ca]; exact mgE_cases _
  · rw [ca] at e
    have el : cmL a b = mgO (b ++ oppL a) := by rw [cb]; unfold mgL; rw [if_pos e]
    rw [el] at o ⊢
    have hv := mgO_v hd e
    rw [(biE_cs hv o).1, (biE_cs h1 f).1, (biE_cs h2 g).1, csS_mgO, csS_append, csS_opp]
    omega
set_option maxRecDepth 100000 in
set_option maxHeartbeats 4000000 in
theorem add_no (a b : List Itm) (A B : Option Addr) (c c' : Nat) (w : World) (ha : ItmSl w A a) (hb : ItmSl w B b) (ht : Lib.TabIs Tryz.prog w "internal/strconv.uint64pow10" .u64 Lib.pow10Tab)
    (h : 30 < a.length ∨ (¬ 30 < a.length ∧ 30 < b.length) ∨ (¬ 30 < a.length ∧ ¬ 30 < b.length ∧ vI a = false) ∨ (¬ 30 < a.length ∧ ¬ 30 < b.length ∧ vI a = true ∧ vI b = false)) :
    Calls Tryz.prog 6 #[.slice A a.length c, .slice B b.length c'] w (RetW (.bool true) w) := by
  have AW := hide (fun W h => awake48_any W h)
  have V1 := hide (fun W h => rvalid48_any a A c W h)
  have V2 := hide (fun W h => rvalid48_any b B c' W h)
  unfold RetW at AW V1 V2
  have HA := hide ha
  have HB := hide hb
  have HT := hide ht
  have la : a.length ≤ 9223372036854775807 := by have := ha.1.1; unfold maxLen at this; omega
  have lb : b.length ≤ 9223372036854775807 := by have := hb.1.1; unfold maxLen at this; omega
  generalize vI a = va at *
  generalize vI b = vb at *
  have ways : decide (30 < (a.length : Int)) = true ∨ (decide (30 < (a.length : Int)) = false ∧ decide (30 < (b.length : Int)) = true) ∨ (decide (30 < (a.length : Int)) = false ∧ decide (30 < (b.length : Int)) = false ∧ va = false) ∨ (decide (30 < (a.length : Int)) = false ∧ decide (30 < (b.length : Int)) = false ∧ va = true ∧ vb = false) := by
    rcases h with h | ⟨h, k⟩ | ⟨h, k, j⟩ | ⟨h, k, j, i⟩
    · exact .inl (decide_eq_true (by omega))
    · exact .inr (.inl ⟨decide_eq_false (by omega), decide_eq_true (by omega)⟩)
    · exact .inr (.inr (.inl ⟨decide_eq_false (by omega), decide_eq_false (by omega), j⟩))
    · exact .inr (.inr (.inr ⟨decide_eq_false (by omega), decide_eq_false (by omega), j, i⟩))
  clear ha hb ht h
  rcases ways with y1 | ⟨y1, y2⟩ | ⟨y1, y2, rfl⟩ | ⟨y1, y2, rfl, rfl⟩
  all_goals
    go_enter Tryz.func6, Tryz.ntmps6
    go_wp2_with fail
    refine (AW.out _ HT.out).mono ?_
    rintro e w1 ⟨rfl, hb⟩
    have K1 := hide hb
    clear hb
    first
      | (go_wp2_with fail
         refine (V1.out _ (HA.out.below K1.out)).mono ?_
         rintro e w2 ⟨rfl, hb⟩
         have K2 := hide (below_via K1.out K1.out.size hb)
         clear hb
         first
           | (go_wp2_with fail
              refine (V2.out _ (HB.out.below K2.out)).mono ?_
              rintro e w3 ⟨rfl, hb⟩
              have K3 := hide (below_via K2.out K2.out.size hb)
              clear hb
              go_wp2
              go_ret
              exact ⟨rfl, K3.out⟩)
           | (go_wp2
              go_ret
              exact ⟨rfl, K2.out⟩))
      | (go_wp2
         go_ret
         exact ⟨rfl, K1.out⟩)
end Go.Proofs.YtbmocghfpcfmhaaGreatDoor

namespace Go.Proofs.YtbmocghfpcfmhaaGreatDoor
open Go Go.RowKit

theorem rev_itm {l S : List Itm} {A : Option Addr} {c B : Nat} {w' : World} (h : w'.ownsRow B 54 3 (.slice A l.length c) l.length (flatItm S)) (hS : LikeI l S) (hn : ∀ i (h : i < l.length), l[i].nm.size ≤ maxLen) : ItmSl w' A S := by
  obtain ⟨A', c', e, IS⟩ := ItmSl.of_row h (fun i hi => by
    obtain ⟨j, hj, e⟩ := List.mem_iff_getElem.1 (hS.mem _ (List.getElem_mem hi))
    rw [← e]; exact hn j hj)
  injection e with e1 e2 e3
  rw [e1]; exact IS

set_option maxRecDepth 100000 in
set_option maxHeartbeats 16000000 in
theorem add_ok (a b : List Itm) (A B : Option Addr) (c c' : Nat) (w : World) (ha : ItmSl w A a) (hb : ItmSl w B b) (ht : Lib.TabIs Tryz.prog w "internal/strconv.uint64pow10" .u64 Lib.pow10Tab)
    (n1 : a.length ≤ 30) (n2 : b.length ≤ 30) (h1 : vI a = true) (h2 : vI b = true) :
    Calls Tryz.prog 6 #[.slice A a.length c, .slice B b.length c'] w (RetW (.bool true) w) := by
  have F := addF h1 h2 n1 n2
  have AW := hide (fun W h => awake48_any W h)
  have V1 := hide (fun W h => rvalid48_any a A c W h)
  have V2 := hide (fun W h => rvalid48_any b B c' W h)
  rw [h1] at V1
  rw [h2] at V2
  have BA := hide (fun W h => cobill_any a A c W h)
  have BB := hide (fun W h => cobill_any b B c' W h)
  have CC := hide (fun p W h h' hp p0 p1 => concat_any a b A B c c' p W h h' (by omega) (by omega) hp p0 p1)
  have BC := hide (fun A c W h => cobill_any (a ++ b) A c W h)
  have CN := hide (fun W h => coCompare_any a a A A c c W h h)
  have CL := hide (fun W h => cloneItm_any a A c W h (by omega))
  have RV := hide (fun A c B W h => reverse_any a A c B W h (by omega))
  have BS := hide (fun S A c W h => cobill_any S A c W h)
  have LK := hide (fun S h => biE_of (S := S) h1 h)
  have MG := hide (fun W h => coMerge_any a A c W h)
  have MM := hide (fun A c W h => coMerge_any (meL a) A c W h)
  have EQ := hide (fun A B c c' W h h' => equalM_any (meL a) A B c c' W h h')
  have CD := hide (fun W h h' => coCompare_any a b A B c c' W h h')
  have NM := hide ha.1.2
  rw [F.none2] at CN
  unfold RetW at AW V1 V2 BA BB BC BS
  unfold ItmPost at CC
  unfold CloneItm at CL
  unfold RevPost at RV
  unfold BilPost at CN MG MM CD
  have HA := hide ha
  have HB := hide hb
  have HT := hide ht
  have y1 : decide (30 < (a.length : Int)) = false := decide_eq_false (by omega)
  have y2 : decide (30 < (b.length : Int)) = false := decide_eq_false (by omega)
  have M2 := hide F.m2
  have F3 := hide F.both
  have D2 := hide F.d2
  obtain ⟨_, N1, _, M1, _, D1, _⟩ := F
  have LEN : ∀ L : List Itm, Hid (L.length ≤ a.length → decide ((a.length : Int) < (L.length : Int)) = false) := fun L => hide (fun h => decide_eq_false (by omega))
  have LM := LEN (meL a)
  have xb := csS_bd a (vI_iff.1 h1).2
  have bx : ∀ l, vI l = true → -1152921504606846976 ≤ biV l ∧ biV l ≤ 1152921504606846976 := fun l h => by
    by_cases z : biE l = 0
    · rw [(biE_cs h z).1]; exact (biE_cs h z).2
    · unfold biV; rw [if_neg z]; omega
  have b1 := bx a h1
  have b2 := bx b h2
  clear xb bx LEN ha hb ht h1 h2
  have BM := hide (fun A c W h => cobill_any (meL a) A c W h)
  have BD := hide (fun A c W h => cobill_any (cmL a b) A c W h)
  unfold RetW at BM BD
  generalize biE a = E at *
  generalize biV a = X at *
  generalize biE b = G at *
  generalize biV b = Y at *
  generalize biE (a ++ b) = K at *
  generalize biV (a ++ b) = Z at *
  generalize a ++ b = M at *
  generalize cmE a a = N at *
  generalize meE (meL a) = E2 at *
  generalize biE (meL a) = E3 at *
  generalize biV (meL a) = X3 at *
  generalize biE (cmL a b) = E4 at *
  generalize biV (cmL a b) = X4 at *
  generalize meL (meL a) = L2 at *
  generalize meL a = L1 at *
  generalize meE a = J at *
  generalize cmE a b = D at *
  generalize cmL a b = L3 at *
  have x1 : (E != E) = false := by simp
  have x2 : (X != X) = false := by simp
  have q1 : IntKind.i64.wrap (X + Y) = X + Y := IntWalk.i64_in _ (by omega)
  have q2 : IntKind.i64.wrap (Y - X) = Y - X := IntWalk.i64_in _ (by omega)
  go_enter Tryz.func6, Tryz.ntmps6
  go_wp2_with fail
  refine (AW.out _ HT.out).mono ?_
  rintro e w1 ⟨rfl, hb⟩
  have K1 := hide hb
  clear hb
  go_wp2_with fail
  refine (V1.out _ (HA.out.below K1.out)).mono ?_
  rintro e w2 ⟨rfl, hb⟩
  have K2 := hide (below_via K1.out K1.out.size hb)
  clear hb K1
  go_wp2_with fail
  refine (V2.out _ (HB.out.below K2.out)).mono ?_
  rintro e w3 ⟨rfl, hb⟩
  have K3 := hide (below_via K2.out K2.out.size hb)
  clear hb K2
  go_wp2_with fail
  refine (BA.out _ (HA.out.below K3.out)).mono ?_
  rintro e w4 ⟨rfl, hb⟩
  have K4 := hide (below_via K3.out K3.out.size hb)
  clear hb K3
  go_wp2_with fail
  refine (BB.out _ (HB.out.below K4.out)).mono ?_
  rintro e w5 ⟨rfl, hb⟩
  have K5 := hide (below_via K4.out K4.out.size hb)
  clear hb K4
  have KA := hide (K5.out.alloc K5.out.size (.cells #[.slice A a.length c, .slice B b.length c'] 40))
  have P0 : (w5.alloc (.cells #[.slice A a.length c, .slice B b.length c'] 40)).cell? ⟨w5.heap.size, 0, none⟩ = some (.slice A a.length c) := by simp
  have P1 : (w5.alloc (.cells #[.slice A a.length c, .slice B b.length c'] 40)).cell? ⟨w5.heap.size, 1, none⟩ = some (.slice B b.length c') := by simp
  have CCk := hide (CC.out w5.heap.size _ (HA.out.below KA.out) (HB.out.below KA.out) (by simp) P0 P1)
  clear P0 P1
  go_wp2_with fail
  refine CCk.out.mono ?_
  rintro e w6 ⟨hb, A6, c6, rfl, s6⟩
  have K6 := hide (below_via KA.out KA.out.size hb)
  have S6 := hide s6
  clear hb K5 KA CCk s6
  go_wp2_with fail
  refine (BC.out _ _ _ S6.out).mono ?_
  rintro e w7 ⟨rfl, hb⟩
  have K7 := hide (below_via K6.out K6.out.size hb)
  clear hb K6 S6 BC CC
  go_wp2_with fail
  refine (CN.out _ (HA.out.below K7.out)).mono ?_
  rintro e w8 ⟨hb, A8, c8, rfl, s8⟩
  have K8 := hide (below_via K7.out K7.out.size hb)
  clear hb K7 s8 CN
  go_wp2_with fail
  refine (CL.out _ (HA.out.below K8.out)).mono ?_
  rintro e w9 ⟨A9, c9, rfl, r9, l9, hb⟩
  have K9 := hide (below_via K8.out K8.out.size hb)
  have R9 := hide r9
  have hz : w.heap.size ≤ w8.heap.size := K8.out.size
  clear hb r9 l9 CL
  go_wp2_with fail
  refine (RV.out _ _ _ _ R9.out).mono ?_
  rintro e w10 ⟨rfl, hb, S, hS, r10⟩
  have K10 := hide (K9.out.trans (hb.mono hz))
  have SS := hide (rev_itm r10 hS NM.out)
  have LS := hide (LK.out S hS)
  have BSx := hide (BS.out S A9 c9 w10 SS.out)
  rw [hS.len, LS.out.1, LS.out.2] at BSx
  clear hb K9 R9 RV LS hS r10 SS BS LK hz
  clear S
  go_wp2_with fail
  refine BSx.out.mono ?_
  rintro e w11 ⟨rfl, hb⟩
  have K11 := hide (below_via K10.out K10.out.size hb)
  clear hb K10 BSx
  have n0 : ((N != 0) = true ∧ (N != 5) = false) ∨ (N != 0) = false := by rcases N1 with rfl | rfl <;> simp
  have WF : ((E == 0) = false) ∨ ((E == 0) = true ∧ (G == 0) = false) ∨ ((E == 0) = true ∧ (G == 0) = true ∧ (K == 0) = false) ∨ ((E == 0) = true ∧ (G == 0) = true ∧ (K == 0) = true ∧ (Z != X + Y) = false) := by
    by_cases e : E = 0
    · by_cases f : G = 0
      · by_cases g : K = 0
        · exact .inr (.inr (.inr ⟨by simp [e], by simp [f], by simp [g], by rw [F3.out e f g]; simp⟩))
        · exact .inr (.inr (.inl ⟨by simp [e], by simp [f], by simp [g]⟩))
      · exact .inr (.inl ⟨by simp [e], by simp [f]⟩)
    · exact .inl (by simp [e])
  replace WF := hide WF
  have WD : D = 0 → (((E != 0) = true) ∨ ((E != 0) = false ∧ (G != 0) = true) ∨ ((E != 0) = false ∧ (G != 0) = false ∧ (E4 != 0) = true) ∨ ((E != 0) = false ∧ (G != 0) = false ∧ (E4 != 0) = false ∧ (X4 == Y - X) = true)) := by
    intro d
    by_cases e : E = 0
    · by_cases f : G = 0
      · by_cases g : E4 = 0
        · exact .inr (.inr (.inr ⟨by simp [e], by simp [f], by simp [g], by rw [D2.out d e f g]; simp⟩))
        · exact .inr (.inr (.inl ⟨by simp [e], by simp [f], by simp [g]⟩))
      · exact .inr (.inl ⟨by simp [e], by simp [f]⟩)
    · exact .inl (by simp [e])
  replace WD := hide WD
  clear F3 D2 N1
  go_upto_region 12 with (fail)
  go_cut [99] (fun v99 wx => v99 = .bool false ∧ Hid (Below w.heap.size w wx))
  case first =>
    rcases n0 with ⟨u1, u2⟩ | u1
    all_goals
      go_wp2_with fail
      go_meet
      exact ⟨rfl, K11⟩
  case rest =>
    obtain ⟨rfl, K12⟩ := hcut
    clear K11 n0
    go_upto_region 14 with (fail)
    go_cut [116] (fun v116 wx => v116 = .bool false ∧ Hid (Below w.heap.size w wx))
    case first =>
      rcases WF.out with u1 | ⟨u1, u2⟩ | ⟨u1, u2, u3⟩ | ⟨u1, u2, u3, u4⟩
      all_goals
        go_wp2_with fail
        go_meet
        exact ⟨rfl, K12⟩
    case rest =>
      obtain ⟨rfl, K13⟩ := hcut
      clear K12 WF
      go_wp2_with fail
      refine (MG.out _ (HA.out.below K13.out)).mono ?_
      rintro e w14 ⟨hb, A14, c14, rfl, s14⟩
      have K14 := hide (below_via K13.out K13.out.size hb)
      have S14 := hide s14
      clear hb s14 K13
      rcases M1 with rfl | rfl
      · obtain ⟨rfl, rfl, rfl, rfl, lm⟩ := M2.out rfl
        have lm2 : decide (a.length < L2.length) = false := decide_eq_false (by omega)
        have lm' := LM.out lm
        clear M2 LM lm
        go_wp2_with fail
        refine (BM.out A14 c14 _ S14.out).mono ?_
        rintro e w15 ⟨rfl, hb⟩
        have K15 := hide (below_via K14.out K14.out.size hb)
        replace S14 := hide (S14.out.below hb)
        clear hb K14
        go_wp2_with fail
        refine (MM.out A14 c14 _ S14.out).mono ?_
        rintro e w16 ⟨hb, A16, c16, rfl, s16⟩
        have K16 := hide (below_via K15.out K15.out.size hb)
        have S16 := hide s16
        replace S14 := hide (S14.out.below hb)
        clear hb K15 s16
        go_wp2_with fail
        refine (EQ.out _ _ _ _ _ S16.out S14.out).mono ?_
        rintro e w17 ⟨rfl, hb⟩
        have K17 := hide (below_via K16.out K16.out.size hb)
        clear hb K16 S14 S16
        go_wp2_with fail
        refine (CD.out _ (HA.out.below K17.out) (HB.out.below K17.out)).mono ?_
        rintro e w18 ⟨hb, A18, c18, rfl, s18⟩
        have K18 := hide (below_via K17.out K17.out.size hb)
        have S18 := hide s18
        clear hb s18 K17
        rcases D1 with rfl | rfl
        · have WD2 := WD.out rfl
          clear WD
          go_wp2_with fail
          refine (BD.out _ _ _ S18.out).mono ?_
          rintro e w19 ⟨rfl, hb⟩
          have K19 := hide (below_via K18.out K18.out.size hb)
          clear hb K18 S18
          rcases WD2 with u1 | ⟨u1, u2⟩ | ⟨u1, u2, u3⟩ | ⟨u1, u2, u3, u4⟩
          all_goals
            go_wp2
            go_ret
            exact ⟨rfl, K19.out⟩
        · clear WD S18
          go_wp2
          go_ret
          exact ⟨rfl, K18.out⟩
      · clear M2 LM S14
        go_wp2_with fail
        refine (CD.out _ (HA.out.below K14.out) (HB.out.below K14.out)).mono ?_
        rintro e w18 ⟨hb, A18, c18, rfl, s18⟩
        have K18 := hide (below_via K14.out K14.out.size hb)
        have S18 := hide s18
        clear hb s18 K14
        rcases D1 with rfl | rfl
        · have WD2 := WD.out rfl
          clear WD
          go_wp2_with fail
          refine (BD.out _ _ _ S18.out).mono ?_
          rintro e w19 ⟨rfl, hb⟩
          have K19 := hide (below_via K18.out K18.out.size hb)
          clear hb K18 S18
          rcases WD2 with u1 | ⟨u1, u2⟩ | ⟨u1, u2, u3⟩ | ⟨u1, u2, u3, u4⟩
          all_goals
            go_wp2
            go_ret
            exact ⟨rfl, K19.out⟩
        · clear WD S18
          go_wp2
          go_ret
          exact ⟨rfl, K18.out⟩
theorem add_law (a b : List Itm) (A B : Option Addr) (c c' : Nat) (w : World) (ha : ItmSl w A a) (hb : ItmSl w B b) (ht : Lib.TabIs Tryz.prog w "internal/strconv.uint64pow10" .u64 Lib.pow10Tab) :
    Calls Tryz.prog 6 #[.slice A a.length c, .slice B b.length c'] w (RetW (.bool true) w) := by
  by_cases n1 : 30 < a.length
  · exact add_no a b A B c c' w ha hb ht (.inl n1)
  by_cases n2 : 30 < b.length
  · exact add_no a b A B c c' w ha hb ht (.inr (.inl ⟨n1, n2⟩))
  cases h1 : vI a with
  | false => exact add_no a b A B c c' w ha hb ht (.inr (.inr (.inl ⟨n1, n2, h1⟩)))
  | true =>
    cases h2 : vI b with
    | false => exact add_no a b A B c c' w ha hb ht (.inr (.inr (.inr ⟨n1, n2, h1, h2⟩)))
    | true => exact add_ok a b A B c c' w ha hb ht (by omega) (by omega) h1 h2
end Go.Proofs.YtbmocghfpcfmhaaGreatDoor
