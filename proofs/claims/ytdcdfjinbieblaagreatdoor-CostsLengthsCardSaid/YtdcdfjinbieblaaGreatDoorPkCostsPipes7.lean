/- Parts of one proof, joined: The program's signed wide integers: Add, Product, Floor, Ceil, Int, Of: what each returns where nothing is too great; nothing that was there is turned. The program's signed wide integers: Product, Floor, Ceil, Int, Of: what each returns where nothing is too great; nothing that was there is turned. Slices of points; slices.IndexFunc and slices.ContainsFunc at points; the program's all, square, Distance of points: what each returns; nothing that was there is turned. The program's Root of wide integers, Distance of points: what each returns; nothing that was there is turned. The program's corners of a face, the place of a spot, the turn of points, and the first side of a face that a point is outside of: what each returns; nothing that was there is turned (printed by gen_lc.py). The first side of a face that a point is outside of: what outer returns; nothing that was there is turned (printed by gen_lco.py). The last step of a law's row, once for all laws: where the call answers true and nothing that was there has turned, the row's outcome is reached. -/
import Derived.Test.YtdcdfjinbieblaaGreatDoorPkCostsPipes6
import Derived.Deep.RegionWith
import Derived.Test.YtdcdfjinbieblaaGreatDoorPkCostsPipes2
import Derived.Deep.Cut
namespace Go.Proofs.YtdcdfjinbieblaaGreatDoor
open Go Go.RowKit

theorem ownw_r1 {w W : World} {b0 : Nat} {t0 : TypeId} {c0 : Array Value} {L} (_ : Own w W ((b0, t0, c0) :: L)) (x : OwnW w ((b0, t0, c0) :: L)) :
    (∀ i, x.W.cell? ⟨b0, i, none⟩ = c0[i]?) ∧ (∀ i, x.W.frozen? ⟨b0, i, none⟩ = false) ∧ b0 < x.W.heap.size := x.own.r1
theorem ownw_r2 {w W : World} {b0 b1 : Nat} {t0 t1 : TypeId} {c0 c1 : Array Value} {L} (_ : Own w W ((b0, t0, c0) :: (b1, t1, c1) :: L)) (x : OwnW w ((b0, t0, c0) :: (b1, t1, c1) :: L)) :
    ((∀ i, x.W.cell? ⟨b0, i, none⟩ = c0[i]?) ∧ (∀ i, x.W.frozen? ⟨b0, i, none⟩ = false) ∧ b0 < x.W.heap.size) ∧
    ((∀ i, x.W.cell? ⟨b1, i, none⟩ = c1[i]?) ∧ (∀ i, x.W.frozen? ⟨b1, i, none⟩ = false) ∧ b1 < x.W.heap.size) := x.own.r2
theorem ownw_r3 {w W : World} {b0 b1 b2 : Nat} {t0 t1 t2 : TypeId} {c0 c1 c2 : Array Value} {L} (_ : Own w W ((b0, t0, c0) :: (b1, t1, c1) :: (b2, t2, c2) :: L)) (x : OwnW w ((b0, t0, c0) :: (b1, t1, c1) :: (b2, t2, c2) :: L)) :
    ((∀ i, x.W.cell? ⟨b0, i, none⟩ = c0[i]?) ∧ (∀ i, x.W.frozen? ⟨b0, i, none⟩ = false) ∧ b0 < x.W.heap.size) ∧
    ((∀ i, x.W.cell? ⟨b1, i, none⟩ = c1[i]?) ∧ (∀ i, x.W.frozen? ⟨b1, i, none⟩ = false) ∧ b1 < x.W.heap.size) ∧
    ((∀ i, x.W.cell? ⟨b2, i, none⟩ = c2[i]?) ∧ (∀ i, x.W.frozen? ⟨b2, i, none⟩ = false) ∧ b2 < x.W.heap.size) := x.own.r3
theorem ownw_r4 {w W : World} {b0 b1 b2 b3 : Nat} {t0 t1 t2 t3 : TypeId} {c0 c1 c2 c3 : Array Value} {L} (_ : Own w W ((b0, t0, c0) :: (b1, t1, c1) :: (b2, t2, c2) :: (b3, t3, c3) :: L)) (x : OwnW w ((b0, t0, c0) :: (b1, t1, c1) :: (b2, t2, c2) :: (b3, t3, c3) :: L)) :
    ((∀ i, x.W.cell? ⟨b0, i, none⟩ = c0[i]?) ∧ (∀ i, x.W.frozen? ⟨b0, i, none⟩ = false) ∧ b0 < x.W.heap.size) ∧
    ((∀ i, x.W.cell? ⟨b1, i, none⟩ = c1[i]?) ∧ (∀ i, x.W.frozen? ⟨b1, i, none⟩ = false) ∧ b1 < x.W.heap.size) ∧
    ((∀ i, x.W.cell? ⟨b2, i, none⟩ = c2[i]?) ∧ (∀ i, x.W.frozen? ⟨b2, i, none⟩ = false) ∧ b2 < x.W.heap.size) ∧
    ((∀ i, x.W.cell? ⟨b3, i, none⟩ = c3[i]?) ∧ (∀ i, x.W.frozen? ⟨b3, i, none⟩ = false) ∧ b3 < x.W.heap.size) := x.own.r4
theorem ownw_old {w W : World} {L} {b o : Nat} {v : Value} (_ : Own w W L) (hb : b < w.heap.size) (hc : w.cell? ⟨b, o, none⟩ = some v) (x : OwnW w L) : x.W.cell? ⟨b, o, none⟩ = some v := (x.own.1.cell (p := ⟨b, o, none⟩) hb).trans hc
theorem ownw_ne {w W : World} {L} (h : Own w W L) : Nonempty (OwnW w L) := ⟨⟨_, h⟩⟩
set_option maxHeartbeats 2000000 in
theorem wsadd_any (x y : Int) (w : World) (hx : wideB x) (hy : wideB y) (hz : wideB (x + y)) : Calls Tryz.prog 41 #[WV x, WV y] w (RetW (.tuple #[WV (x + y), .int .i64 0]) w) := by
  have V1 := hide (fun W => wsvalid_any x W hx)
  have V2 := hide (fun W => wsvalid_any y W hy)
  have U1 := hide (fun W => wsvalue_any x W hx)
  have U2 := hide (fun W => wsvalue_any y W hy)
  have SM := hide (fun W => wssum_any x y W hx hy)
  have PL := hide (fun W => wsplaced_any (x + y) W hz)
  unfold RetW at V1 V2 U1 U2 SM PL
  clear hx hy hz
  generalize x + y = z at *
  have X := (((Own.start w).alloc #[.int .i64 (x / 1152921504606846976), .int .i64 (x % 1152921504606846976)] 88).alloc #[.int .i64 (y / 1152921504606846976), .int .i64 (y % 1152921504606846976)] 88).alloc #[.int .i64 0, .int .i64 0] 88
  simp only [World.size_alloc] at X
  unfold WV at *
  generalize x / 1152921504606846976 = x1 at *
  generalize x % 1152921504606846976 = x2 at *
  generalize y / 1152921504606846976 = y1 at *
  generalize y % 1152921504606846976 = y2 at *
  generalize z / 1152921504606846976 = z1 at *
  generalize z % 1152921504606846976 = z2 at *
  unfold WN at *
  generalize ((x.natAbs / 18446744073709551616 : Nat) : Int) = xh at *
  generalize ((x.natAbs % 18446744073709551616 : Nat) : Int) = xl at *
  generalize decide (x < 0) = xn at *
  generalize ((y.natAbs / 18446744073709551616 : Nat) : Int) = yh at *
  generalize ((y.natAbs % 18446744073709551616 : Nat) : Int) = yl at *
  generalize decide (y < 0) = yn at *
  generalize ((z.natAbs / 18446744073709551616 : Nat) : Int) = zh at *
  generalize ((z.natAbs % 18446744073709551616 : Nat) : Int) = zl at *
  generalize decide (z < 0) = zn at *
  have n1 : w.heap.size < w.heap.size + 1 + 1 := by omega
  have hr := X.r3
  go_enter Tryz.func41, Tryz.ntmps41
  go_wp2_with fail
  refine (V1.out _).mono ?_
  rintro e w1 ⟨rfl, hb⟩
  replace X := X.to hb
  clear hr hb
  have hr := X.r3
  go_wp2_with fail
  refine (V2.out _).mono ?_
  rintro e w2 ⟨rfl, hb⟩
  replace X := X.to hb
  clear hr hb
  have hr := X.r3
  go_wp2
  have NE := ownw_ne X
  have C1 := ownw_r3 X
  refine wp_region_own_tail (w := w) 8 (by kernel_rfl) (by kernel_rfl) X ?_
  simp only [List.take_succ_cons, List.take_zero, List.drop_succ_cons, List.drop_zero]
  repeat (go_big_quiet_step ((rename_i y; first | with_reducible exact own_call (U1.out _) | with_reducible exact own_call (U2.out _) | with_reducible exact own_call (SM.out _) | with_reducible exact own_call (PL.out _))))
  refine wpQuiet_nil ?_
  rintro W ⟨⟨W, HO⟩, rfl⟩
  have hr := HO.r3
  go_wp2
  refine bodyPost_ret (v := .tuple #[.agg #[.int .i64 z1, .int .i64 z2], .int .i64 0]) (by simp [results, Tryz.results41, hr, go_sem]) rfl ⟨rfl, ?_⟩
  exact below_set (below_set HO.1 (by omega) _) (by omega) _
end Go.Proofs.YtdcdfjinbieblaaGreatDoor

namespace Go.Proofs.YtdcdfjinbieblaaGreatDoor
open Go Go.RowKit

set_option maxHeartbeats 1000000 in
theorem wsproduct_any (a b : Int) (w : World) (h1 : -9223372036854775808 ≤ a ∧ a ≤ 9223372036854775807) (h2 : -9223372036854775808 ≤ b ∧ b ≤ 9223372036854775807) (h : wideB (a * b)) :
    Calls Tryz.prog 40 #[.int .i64 a, .int .i64 b] w (RetW (.tuple #[WV (a * b), .int .i64 0]) w) := by
  have X := (Own.start w).alloc #[.int .i64 0, .int .i64 0] 88
  have T := hide (fun W => times_any a b W h1.1 h1.2 h2.1 h2.2)
  have P := hide (fun W => wsplaced_any (a * b) W h)
  unfold RetW at P
  clear h1 h2 h
  generalize a * b = v at *
  unfold WV at *
  generalize v / 1152921504606846976 = v1 at *
  generalize v % 1152921504606846976 = v2 at *
  unfold WN at *
  generalize ((v.natAbs / 18446744073709551616 : Nat) : Int) = vh at *
  generalize ((v.natAbs % 18446744073709551616 : Nat) : Int) = vl at *
  generalize decide (v < 0) = vn at *
  go_enter Tryz.func40, Tryz.ntmps40
  go_wp2_with fail
  refine (T.out _).mono ?_
  rintro e w1 ⟨rfl, hb⟩
  replace X := X.to hb
  clear hb
  have hr := X.r1
  go_wp2_with fail
  refine (P.out _).mono ?_
  rintro e w2 ⟨rfl, hb⟩
  replace X := X.to hb
  clear hb hr
  have hr := X.r1
  go_wp2
  refine bodyPost_ret (v := .tuple #[.agg #[.int .i64 v1, .int .i64 v2], .int .i64 0]) (by simp [results, Tryz.results40, hr, go_sem]) rfl ⟨rfl, ?_⟩
  exact below_set (below_set X.1 (by omega) _) (by omega) _
set_option maxHeartbeats 1000000 in
theorem wsdivided_any (v b : Int) (u : Bool) (w : World) (h : wideB v) (hb0 : b ≠ 0) (h1 : -9223372036854775808 ≤ b ∧ b ≤ 9223372036854775807) :
    Calls Tryz.prog 157 #[WV v, .int .i64 b, .bool u] w (RetW (.tuple #[.int .i64 (i64V (quo v b u)), .int .i64 (i64E (quo v b u))]) w) := by
  have g : (b == 0) = false := beq_eq_false_iff_ne.2 hb0
  have X := (Own.start w).alloc #[.int .i64 (v / 1152921504606846976), .int .i64 (v % 1152921504606846976)] 88
  have V := hide (fun W => wsvalid_any v W h)
  have U := hide (fun W => wsvalue_any v W h)
  have Q := hide (fun W => quotient_full (v := v) hb0 u W h1.1 h1.2)
  unfold RetW at V U
  unfold QuoPost at Q
  clear h hb0 h1
  generalize i64V (quo v b u) = r1 at *
  generalize i64E (quo v b u) = r2 at *
  unfold WV at *
  generalize v / 1152921504606846976 = v1 at *
  generalize v % 1152921504606846976 = v2 at *
  unfold WN at *
  generalize ((v.natAbs / 18446744073709551616 : Nat) : Int) = vh at *
  generalize ((v.natAbs % 18446744073709551616 : Nat) : Int) = vl at *
  generalize decide (v < 0) = vn at *
  go_enter Tryz.func157, Tryz.ntmps157
  go_wp2_with fail
  refine (V.out _).mono ?_
  rintro e w1 ⟨rfl, hb⟩
  replace X := X.to hb
  clear hb
  have hr := X.r1
  go_wp2_with fail
  refine (U.out _).mono ?_
  rintro e w2 ⟨rfl, hb⟩
  replace X := X.to hb
  clear hb hr
  have hr := X.r1
  go_wp2_with fail
  refine (Q.out _).mono ?_
  rintro e w3 ⟨rfl, hb⟩
  replace X := X.to hb
  clear hb hr
  go_wp2
  go_ret2
  exact ⟨rfl, X.1⟩
set_option maxHeartbeats 1000000 in
theorem wsfloor_any (v b : Int) (w : World) (h : wideB v) (hb0 : b ≠ 0) (h1 : -9223372036854775808 ≤ b ∧ b ≤ 9223372036854775807) :
    Calls Tryz.prog 150 #[WV v, .int .i64 b] w (RetW (.tuple #[.int .i64 (i64V (dn v b)), .int .i64 (i64E (dn v b))]) w) := by
  have X := (Own.start w).alloc #[.int .i64 (v / 1152921504606846976), .int .i64 (v % 1152921504606846976)] 88
  have Q := hide (fun W => wsdivided_any v b false W h hb0 h1)
  unfold RetW at Q
  rw [show quo v b false = dn v b from rfl] at Q
  clear h hb0 h1
  generalize i64V (dn v b) = r1 at *
  generalize i64E (dn v b) = r2 at *
  unfold WV at *
  generalize v / 1152921504606846976 = v1 at *
  generalize v % 1152921504606846976 = v2 at *
  go_enter Tryz.func150, Tryz.ntmps150
  go_wp2_with fail
  refine (Q.out _).mono ?_
  rintro e w3 ⟨rfl, hb⟩
  replace X := X.to hb
  clear hb
  go_wp2
  go_ret2
  exact ⟨rfl, X.1⟩
set_option maxHeartbeats 1000000 in
theorem wsceil_any (v b : Int) (w : World) (h : wideB v) (hb0 : b ≠ 0) (h1 : -9223372036854775808 ≤ b ∧ b ≤ 9223372036854775807) :
    Calls Tryz.prog 151 #[WV v, .int .i64 b] w (RetW (.tuple #[.int .i64 (i64V (up v b)), .int .i64 (i64E (up v b))]) w) := by
  have X := (Own.start w).alloc #[.int .i64 (v / 1152921504606846976), .int .i64 (v % 1152921504606846976)] 88
  have Q := hide (fun W => wsdivided_any v b true W h hb0 h1)
  unfold RetW at Q
  rw [show quo v b true = up v b from rfl] at Q
  clear h hb0 h1
  generalize i64V (up v b) = r1 at *
  generalize i64E (up v b) = r2 at *
  unfold WV at *
  generalize v / 1152921504606846976 = v1 at *
  generalize v % 1152921504606846976 = v2 at *
  go_enter Tryz.func151, Tryz.ntmps151
  go_wp2_with fail
  refine (Q.out _).mono ?_
  rintro e w3 ⟨rfl, hb⟩
  replace X := X.to hb
  clear hb
  go_wp2
  go_ret2
  exact ⟨rfl, X.1⟩
set_option maxHeartbeats 1000000 in
theorem wsint_any (v : Int) (w : World) (h : wideB v) : Calls Tryz.prog 42 #[WV v] w (RetW (.tuple #[.int .i64 (i64V v), .int .i64 (i64E v)]) w) := by
  have X := (Own.start w).alloc #[.int .i64 (v / 1152921504606846976), .int .i64 (v % 1152921504606846976)] 88
  have V := hide (fun W => wsvalid_any v W h)
  have U := hide (fun W => wsvalue_any v W h)
  unfold RetW at V U
  have e0 : v = sgn (v.natAbs : Int) (decide (v < 0)) := by
    unfold sgn
    by_cases k : v < 0 <;> simp [k] <;> omega
  by_cases k : v.natAbs < 18446744073709551616
  · obtain ⟨m, hm⟩ : ∃ m, m = v.natAbs := ⟨_, rfl⟩
    have W1 := hide (fun W => whole_any (m : Int) (decide (v < 0)) W (by omega) (by omega))
    rw [hm, ← e0] at W1
    have eN : WN v = .agg #[.int .u64 0, .int .u64 (v.natAbs : Int), .bool (decide (v < 0))] := by
      unfold WN
      rw [Nat.div_eq_of_lt k, Nat.mod_eq_of_lt k]
      rfl
    rw [eN] at U
    clear h e0 k eN hm
    generalize i64V v = r1 at *
    generalize i64E v = r2 at *
    unfold WV at *
    generalize v / 1152921504606846976 = v1 at *
    generalize v % 1152921504606846976 = v2 at *
    generalize (v.natAbs : Int) = vl at *
    generalize decide (v < 0) = vn at *
    go_enter Tryz.func42, Tryz.ntmps42
    go_wp2_with fail
    refine (V.out _).mono ?_
    rintro e w1 ⟨rfl, hb⟩
    replace X := X.to hb
    clear hb
    have hr := X.r1
    go_wp2_with fail
    refine (U.out _).mono ?_
    rintro e w2 ⟨rfl, hb⟩
    replace X := (X.to hb).alloc #[.int .u64 0, .int .u64 vl, .bool vn] 106
    clear hb hr
    have hr := X.r2
    go_wp2_with fail
    refine (W1.out _).mono ?_
    rintro e w3 ⟨rfl, rfl⟩
    go_wp2
    go_ret2
    exact ⟨rfl, X.1⟩
  · have hB : i64B v = false := by
      cases e : i64B v with
      | false => rfl
      | true => have := i64B_iff.1 e; omega
    have E := i64_no hB
    have hh : 0 < v.natAbs / 18446744073709551616 := by omega
    have hh2 : ((v.natAbs / 18446744073709551616 : Nat) : Int) > 0 := by omega
    rw [E.1, E.2]
    clear h e0 k hB E hh
    unfold WN WV at *
    generalize v / 1152921504606846976 = v1 at *
    generalize v % 1152921504606846976 = v2 at *
    generalize ((v.natAbs / 18446744073709551616 : Nat) : Int) = vh at *
    generalize ((v.natAbs % 18446744073709551616 : Nat) : Int) = vl at *
    generalize decide (v < 0) = vn at *
    go_enter Tryz.func42, Tryz.ntmps42
    go_wp2_with fail
    refine (V.out _).mono ?_
    rintro e w1 ⟨rfl, hb⟩
    replace X := X.to hb
    clear hb
    have hr := X.r1
    go_wp2_with fail
    refine (U.out _).mono ?_
    rintro e w2 ⟨rfl, hb⟩
    replace X := (X.to hb).alloc #[.int .u64 vh, .int .u64 vl, .bool vn] 106
    clear hb hr
    have hr := X.r2
    go_wp2
    go_ret2
    exact ⟨rfl, X.1⟩
set_option maxHeartbeats 1000000 in
theorem wsof_any (n : Int) (w : World) (h1 : -9223372036854775808 ≤ n ∧ n ≤ 9223372036854775807) : Calls Tryz.prog 39 #[.int .i64 n] w (RetW (WV n) w) := by
  have X := (Own.start w).alloc #[.int .i64 0, .int .i64 0] 88
  have SZ := hide (fun W => wsize_any n W h1.1 h1.2)
  have SG := hide (fun W => signed_any 0 (n.natAbs : Int) (decide (n < 0)) W)
  have PL := hide (fun W => wsplaced_any n W ⟨by omega, by omega⟩)
  have eN : WN n = .agg #[.int .u64 0, .int .u64 (n.natAbs : Int), .bool (decide (n < 0) && ((0 : Int) != 0 || (n.natAbs : Int) != 0))] := by
    have k : n.natAbs < 18446744073709551616 := by omega
    have := WN_of (x := n) (m := n.natAbs) (b := decide (n < 0)) rfl (fun _ => rfl)
    rw [Nat.div_eq_of_lt k, Nat.mod_eq_of_lt k] at this
    exact this
  rw [eN] at PL
  unfold RetW at PL
  clear h1 eN
  unfold WV at *
  generalize n / 1152921504606846976 = v1 at *
  generalize n % 1152921504606846976 = v2 at *
  go_enter Tryz.func39, Tryz.ntmps39
  go_wp2_with fail
  refine (SZ.out _).mono ?_
  rintro e w' ⟨rfl, rfl⟩
  go_wp2_with fail
  refine (SG.out _).mono ?_
  rintro e w1 ⟨rfl, hb⟩
  replace X := X.to hb
  clear hb
  have hr := X.r1
  go_wp2_with fail
  refine (PL.out _).mono ?_
  rintro e w2 ⟨rfl, hb⟩
  replace X := (X.to hb).alloc #[.int .i64 v1, .int .i64 v2] 88
  clear hb hr
  have hr := X.r2
  go_wp2
  refine bodyPost_ret (v := .agg #[.int .i64 v1, .int .i64 v2]) (by simp [results, Tryz.results39, hr, go_sem]) rfl ⟨rfl, ?_⟩
  exact below_set (below_set X.1 (by omega) _) (by omega) _
end Go.Proofs.YtdcdfjinbieblaaGreatDoor

namespace Go.Proofs.YtdcdfjinbieblaaGreatDoor
open Go Go.RowKit

/-- a slice of points that reads as a list -/
def PntSl (w : World) (A : Option Addr) (l : List Pnt) : Prop :=
  l.length ≤ 9223372036854775807 ∧ (0 < l.length → ∃ b off, A = some ⟨b, off, none⟩ ∧ b < w.heap.size ∧ ∀ i (h : i < l.length), w.cell? ⟨b, off + i * 2, none⟩ = some (.int .i64 l[i].x) ∧ w.cell? ⟨b, off + i * 2 + 1, none⟩ = some (.int .i64 l[i].y))
theorem PntSl.below {w w' : World} {A : Option Addr} {l : List Pnt} (h : PntSl w A l) (hb : Below w.heap.size w w') : PntSl w' A l :=
  ⟨h.1, fun hl => by
    obtain ⟨b, off, e, hlt, hat⟩ := h.2 hl
    have k := fun (i : Nat) => hb.cell (p := ⟨b, i, none⟩) hlt
    exact ⟨b, off, e, Nat.lt_of_lt_of_le hlt hb.size, fun i hi => ⟨(k _).trans (hat i hi).1, (k _).trans (hat i hi).2⟩⟩⟩
def idxQ (p : Pnt → Bool) (l : List Pnt) : Int := match l.findIdx? p with | some i => (i : Int) | none => -1
theorem idxQ_no {p : Pnt → Bool} {l : List Pnt} (h : ∀ i (hi : i < l.length), p l[i] = false) : idxQ p l = -1 := by
  have : l.findIdx? p = none := by
    rw [List.findIdx?_eq_none_iff]
    intro x hx
    obtain ⟨i, hi, rfl⟩ := List.mem_iff_getElem.1 hx
    exact h i hi
  simp [idxQ, this]
theorem idxQ_yes {p : Pnt → Bool} {l : List Pnt} {k : Nat} (hk : k < l.length) (h : ∀ i (hi : i < l.length), i < k → p l[i] = false) (hy : p l[k] = true) : idxQ p l = k := by
  have : l.findIdx? p = some k := by
    rw [List.findIdx?_eq_some_iff_getElem]
    exact ⟨hk, hy, fun j hj => by rw [h j (by omega) hj]; simp⟩
  simp [idxQ, this]
theorem any_idxQ (p : Pnt → Bool) (l : List Pnt) : l.any p = decide (0 ≤ idxQ p l) := by
  unfold idxQ
  cases h : l.findIdx? p with
  | none =>
    rw [List.findIdx?_eq_none_iff] at h
    rw [Bool.eq_iff_iff]
    simp only [List.any_eq_true, decide_eq_true_eq]
    constructor
    · rintro ⟨x, hx, hp⟩
      rw [h x hx] at hp
      cases hp
    · intro h'
      omega
  | some i =>
    rw [List.findIdx?_eq_some_iff_getElem] at h
    obtain ⟨hi, hp, _⟩ := h
    rw [Bool.eq_iff_iff]
    simp only [List.any_eq_true, decide_eq_true_eq]
    exact ⟨fun _ => by omega, fun _ => ⟨l[i], List.getElem_mem hi, hp⟩⟩
set_option maxRecDepth 100000 in
set_option maxHeartbeats 2000000 in
theorem idxQ_any (f : Nat) (q : Pnt → Bool) (hf : ∀ (d : Pnt) (W : World), Calls Tryz.prog f #[d.val] W (RetW (.bool (q d)) W)) (hc : ∀ (d : Pnt) (w : World), (callFunc f #[d.val]).run Tryz.prog w = .ok (.enter f #[d.val]) w) (l : List Pnt) (A : Option Addr) (cap : Nat) (w : World) (hl : PntSl w A l) :
    Calls Tryz.prog 152 #[.slice A l.length cap, .func (.func f) #[] #[]] w (RetW (.int .i64 (idxQ q l)) w) := by
  have hlen : l.length ≤ 9223372036854775807 := hl.1
  have H := hide hl
  have CK := hide hf
  unfold RetW at CK
  clear hl hf
  go_enter Tryz.func152, Tryz.ntmps152
  go_wp2
  go_loopw [8] (fun v8 wr => ∃ k : Nat, k ≤ l.length ∧ v8 = .int .i64 k ∧ Hid (Below w.heap.size w wr) ∧ Hid (∀ i (hi : i < l.length), i < k → q l[i] = false)) (fun v8 _ => l.length - (intOf v8).toNat)
  case atStart => exact ⟨0, Nat.zero_le _, rfl, hide (Below.refl _ _), hide (fun _ _ h => by omega)⟩
  case round =>
    obtain ⟨k, hk, rfl, HW, hno⟩ := hrel
    by_cases hlt : k < l.length
    · obtain ⟨b, off, rfl, hbl, hat⟩ := (H.out.below HW.out).2 (by omega)
      obtain ⟨c0, c1⟩ := hat k hlt
      have CKk := hide (fun W => CK.out l[k] W)
      clear hat
      by_cases hs : q l[k] = true
      · have E := hide (idxQ_yes (p := q) hlt (fun i hi hik => hno.out i hi hik) hs)
        rw [hs] at CKk
        clear hs
        generalize l[k] = o at *
        go_wp2_with fail
        refine (CKk.out _).mono ?_
        rintro e w' ⟨rfl, hb⟩
        go_wp2
        go_ret
        exact ⟨ret_int E.out.symm, below_via HW.out HW.out.size hb⟩
      · have hs : q l[k] = false := by simpa using hs
        have hno2 := hide (fun i (hi : i < l.length) (hik : i < k + 1) => (show q l[i] = false by
          by_cases e : i = k
          · subst e; exact hs
          · exact hno.out i hi (by omega)))
        rw [hs] at CKk
        clear hs
        generalize l[k] = o at *
        go_wp2_with fail
        refine (CKk.out _).mono ?_
        rintro e w' ⟨rfl, hb⟩
        have HW2 := hide (below_via HW.out HW.out.size hb)
        clear hb
        go_wp2
        go_roundw
        case rel => exact ⟨k + 1, by omega, by go_num, HW2, hno2⟩
        case measure => simp [intOf]; omega
    · go_wp2
      go_ret
      exact ⟨ret_int (idxQ_no fun i hi => hno.out i hi (by omega)).symm, HW.out⟩
set_option maxHeartbeats 1000000 in
theorem contQ_any (f : Nat) (q : Pnt → Bool) (hf : ∀ (d : Pnt) (W : World), Calls Tryz.prog f #[d.val] W (RetW (.bool (q d)) W)) (hc : ∀ (d : Pnt) (w : World), (callFunc f #[d.val]).run Tryz.prog w = .ok (.enter f #[d.val]) w) (l : List Pnt) (A : Option Addr) (cap : Nat) (w : World) (hl : PntSl w A l) :
    Calls Tryz.prog 131 #[.slice A l.length cap, .func (.func f) #[] #[]] w (RetW (.bool (l.any q)) w) := by
  have C := hide (idxQ_any f q hf hc l A cap w hl)
  have H := hide (any_idxQ q l)
  unfold RetW at C
  clear hf hl
  go_enter Tryz.func131, Tryz.ntmps131
  go_wp2_with fail
  refine C.out.mono ?_
  rintro e w' ⟨rfl, hb⟩
  go_wp2
  go_ret
  exact ⟨ret_bool H.out.symm, hb⟩
set_option maxHeartbeats 1000000 in
theorem plall1_any (p : Pnt) (w : World) : Calls Tryz.prog 132 #[p.val] w (RetW (.bool (!inP p)) w) := by
  have X := (Own.start w).alloc #[.int .i64 p.x, .int .i64 p.y] 68
  have hr := X.r1
  have PV := hide (fun W => plvalid_any p W)
  unfold RetW at PV
  go_enter Tryz.func132, Tryz.ntmps132
  go_wp2_with fail
  refine (PV.out _).mono ?_
  rintro e w1 ⟨rfl, hb⟩
  have XB := (X.to hb).1
  clear hb hr
  go_wp2
  go_ret
  exact ⟨rfl, XB⟩
set_option maxHeartbeats 1000000 in
theorem plall_any (l : List Pnt) (A : Option Addr) (cap : Nat) (w : World) (hl : PntSl w A l) : Calls Tryz.prog 84 #[.slice A l.length cap] w (RetW (.bool (l.all inP)) w) := by
  have C := hide (contQ_any 132 (fun p => !inP p) plall1_any (fun d w => enters_of Tryz.func132 (by kernel_rfl) rfl _ w) l A cap w hl)
  have E : Hid ((!(l.any fun p => !inP p)) = l.all inP) := hide (by rw [List.any_eq_not_all_not]; simp)
  unfold RetW at C
  clear hl
  generalize (l.any fun p => !inP p) = b at *
  go_enter Tryz.func84, Tryz.ntmps84
  go_wp2_with fail
  refine C.out.mono ?_
  rintro e w' ⟨rfl, hb⟩
  go_wp2
  go_ret
  exact ⟨ret_bool E.out, hb⟩
set_option maxHeartbeats 1000000 in
theorem plsquare_any (a b : Pnt) (w : World) (ha : a.in) (hb : b.in) : Calls Tryz.prog 85 #[a.val, b.val] w (RetW (.int .i64 (sqD a b)) w) := by
  have X := ((Own.start w).alloc #[.int .i64 a.x, .int .i64 a.y] 68).alloc #[.int .i64 b.x, .int .i64 b.y] 68
  simp only [World.size_alloc] at X
  have hr := X.r2
  have XB := hide X.1
  obtain ⟨⟨m1, m2⟩, m3⟩ := sqD_bd ha hb
  obtain ⟨⟨a1, a2⟩, a3, a4⟩ := ha
  obtain ⟨⟨b1, b2⟩, b3, b4⟩ := hb
  have E : Hid (sqD a b = (a.x - b.x) * (a.x - b.x) + (a.y - b.y) * (a.y - b.y)) := hide rfl
  generalize sqD a b = t at *
  have e1 := IntWalk.i64_in (a.x - b.x) (by omega)
  have e2 := IntWalk.i64_in (a.y - b.y) (by omega)
  obtain ⟨p, hp⟩ : ∃ p, p = (a.x - b.x) * (a.x - b.x) := ⟨_, rfl⟩
  obtain ⟨q, hq⟩ : ∃ q, q = (a.y - b.y) * (a.y - b.y) := ⟨_, rfl⟩
  rw [← hp, ← hq] at E
  rw [← hp] at m1
  rw [← hq] at m2
  have w1 : IntKind.i64.wrap ((a.x - b.x) * (a.x - b.x)) = p := by rw [← hp]; exact IntWalk.i64_in _ (by omega)
  have w2 : IntKind.i64.wrap ((a.y - b.y) * (a.y - b.y)) = q := by rw [← hq]; exact IntWalk.i64_in _ (by omega)
  have w3 := IntWalk.i64_in (p + q) (by omega)
  clear hp hq X m3
  go_enter Tryz.func85, Tryz.ntmps85
  go_wp2
  go_ret
  exact ⟨by rw [E.out]; rfl, XB.out⟩
end Go.Proofs.YtdcdfjinbieblaaGreatDoor

namespace Go.Proofs.YtdcdfjinbieblaaGreatDoor
open Go Go.RowKit

theorem or_powW (m s : Nat) : m * 2 ^ (s + 1) ||| 2 ^ s = m * 2 ^ (s + 1) + 2 ^ s := by
  have h := Nat.two_pow_add_eq_or_of_lt (i := s + 1) (b := 2 ^ s) (Nat.pow_lt_pow_right (by omega) (by omega)) m
  rw [Nat.mul_comm (2 ^ (s + 1)) m] at h
  exact h.symm
def WRel (n : Nat) (r P : Nat) : Prop := ∃ s m : Nat, P = 2 ^ s ∧ s ≤ 60 ∧ r = m * 2 ^ s ∧ r + P ≤ 2 ^ 60 ∧ r * r ≤ n ∧ n < (r + P) * (r + P)
theorem wroot_start {n : Nat} (h1 : n ≤ 2251799813685248) : WRel n 0 1152921504606846976 := ⟨60, 0, by decide, by omega, by simp, by decide, by simp, by omega⟩
theorem wroot_round {n : Nat} {r P : Nat} (h : WRel n r P) (hP : 1 < P) : ∃ Q : Nat, P = 2 * Q ∧ 0 < Q ∧ (r ||| Q = r + Q) ∧ r + Q < 1152921504606846976 ∧ r < 1152921504606846976 ∧ Q < 1152921504606846976 ∧
    ((r + Q) * (r + Q) ≤ n → WRel n (r + Q) Q) ∧ (n < (r + Q) * (r + Q) → WRel n r Q) := by
  obtain ⟨s, m, e1, e2, e3, e4, e5, e6⟩ := h
  rcases s with _ | s
  · simp at e1; omega
  have hpow : 2 ^ (s + 1) = 2 * 2 ^ s := by rw [Nat.pow_succ, Nat.mul_comm]
  have hq : 0 < 2 ^ s := Nat.two_pow_pos s
  have ho := or_powW m s
  rw [← e3] at ho
  have e3' : r = 2 * m * 2 ^ s := by rw [e3, hpow, ← Nat.mul_assoc, Nat.mul_comm m 2]
  have e3'' : r + 2 ^ s = (2 * m + 1) * 2 ^ s := by rw [e3', Nat.add_mul]; omega
  refine ⟨2 ^ s, by omega, hq, ho, by omega, by omega, by omega, fun h => ⟨s, 2 * m + 1, rfl, by omega, e3'', by omega, h, ?_⟩, fun h => ⟨s, 2 * m, rfl, by omega, e3', by omega, e5, h⟩⟩
  rw [show r + 2 ^ s + 2 ^ s = r + P by omega]
  exact e6
theorem wroot_end {n : Nat} {r : Nat} (h : WRel n r 1) : isq (n : Int) = r := by
  obtain ⟨s, m, e1, e2, e3, e4, e5, e6⟩ := h
  refine isq_uniq (by omega) (by omega) ?_ ?_
  · exact_mod_cast e5
  · exact_mod_cast e6
set_option maxRecDepth 100000 in
set_option maxHeartbeats 2000000 in
theorem wsroot_any (n : Nat) (w : World) (h1 : n ≤ 2251799813685248) : Calls Tryz.prog 86 #[WV (n : Int)] w (RetW (.tuple #[.int .i64 (isq (n : Int)), .int .i64 0]) w) := by
  have hB : wideB (n : Int) := ⟨by omega, by omega⟩
  have X := (Own.start w).alloc #[.int .i64 ((n : Int) / 1152921504606846976), .int .i64 ((n : Int) % 1152921504606846976)] 88
  have V := hide (fun W => wsvalid_any (n : Int) W hB)
  have U := hide (fun W => wsvalue_any (n : Int) W hB)
  have eN : WN (n : Int) = .agg #[.int .u64 0, .int .u64 (n : Int), .bool false] := by
    rw [WN_nat]
    have k : n < 18446744073709551616 := by omega
    unfold Nv
    rw [Nat.div_eq_of_lt k, Nat.mod_eq_of_lt k]
    rfl
  rw [eN] at U
  have ST := hide (wroot_start h1)
  have HN := hide h1
  unfold RetW at V U
  unfold WV at *
  generalize (n : Int) / 1152921504606846976 = v1 at *
  generalize (n : Int) % 1152921504606846976 = v2 at *
  clear hB eN h1
  go_enter Tryz.func86, Tryz.ntmps86
  go_wp2_with fail
  refine (V.out _).mono ?_
  rintro e w1 ⟨rfl, hb⟩
  replace X := X.to hb
  clear hb
  have hr := X.r1
  go_wp2_with fail
  refine (U.out _).mono ?_
  rintro e w2 ⟨rfl, hb⟩
  replace X := (X.to hb).alloc #[.int .u64 0, .int .u64 (n : Int), .bool false] 106
  clear hb hr
  have hr := X.r2
  have XB := hide X.1
  clear X V U
  go_wp2
  go_loop [5, 6] (fun v5 v6 => ∃ r P : Nat, v5 = .int .u64 (r : Int) ∧ v6 = .int .u64 ((P / 2 : Nat) : Int) ∧ Hid (WRel n r P)) (fun _ v6 => (intOf v6).toNat)
  case atStart => exact ⟨0, 1152921504606846976, rfl, rfl, ST⟩
  case round =>
    obtain ⟨r, P, rfl, rfl, hrel⟩ := hrel
    by_cases hP : 1 < P
    · obtain ⟨Q, rfl, hQ, ho, b1, b2, b3, k1, k2⟩ := wroot_round hrel.out hP
      have HO := u64_or_nat ho (by omega) (by omega)
      have e2 : ((2 * Q / 2 : Nat) : Int) = (Q : Int) := by omega
      rw [e2]
      have e3 : (Q : Int).fdiv (2 ^ min (Int.toNat 1) IntKind.u64.bits) = ((Q / 2 : Nat) : Int) := by
        have e : (2 : Int) ^ min (Int.toNat 1) IntKind.u64.bits = 2 := by decide
        rw [e, Int.fdiv_eq_ediv_of_nonneg _ (by omega)]
        omega
      obtain ⟨x, hx⟩ : ∃ x, x = r + Q := ⟨_, rfl⟩
      rw [← hx] at b1 k1 k2 HO
      obtain ⟨hh, hhh⟩ : ∃ hh, hh = x * x / 18446744073709551616 := ⟨_, rfl⟩
      obtain ⟨ll, hll⟩ : ∃ ll, ll = x * x % 18446744073709551616 := ⟨_, rfl⟩
      have MU := hide (fun W => Tryz.bits_Mul64 x x (by omega) (by omega) W)
      rw [← hhh, ← hll] at MU
      have hn := HN.out
      have ways : (hh = 0 ∧ ll ≤ n ∧ WRel n x Q) ∨ (hh = 0 ∧ ¬ ll ≤ n ∧ WRel n r Q) ∨ (0 < hh ∧ WRel n r Q) := by
        rcases Nat.eq_zero_or_pos hh with h0 | h0
        · have el : ll = x * x := by omega
          by_cases hl : ll ≤ n
          · exact .inl ⟨h0, hl, k1 (by omega)⟩
          · exact .inr (.inl ⟨h0, hl, k2 (by omega)⟩)
        · exact .inr (.inr ⟨h0, k2 (by omega)⟩)
      clear hrel ho k1 k2 hP e2 hhh hll b1 b2 b3 hn hx
      have Q0 : (0 : Int) < (Q : Int) := by omega
      rcases ways with ⟨h0, hl, K⟩ | ⟨h0, hl, K⟩ | ⟨h0, K⟩
      · subst h0
        have d1 : decide (ll ≤ n) = true := decide_eq_true hl
        have HK := hide K
        clear K hl
        go_wp2_with fail
        refine (MU.out _).mono ?_
        rintro e w' ⟨rfl, rfl⟩
        go_wp2
        go_round
        case rel => exact ⟨x, Q, by go_num, by go_num, HK⟩
        case measure => simp [intOf]; omega
      · subst h0
        have d1 : decide (ll ≤ n) = false := decide_eq_false hl
        have HK := hide K
        clear K hl
        go_wp2_with fail
        refine (MU.out _).mono ?_
        rintro e w' ⟨rfl, rfl⟩
        go_wp2
        go_round
        case rel => exact ⟨r, Q, by go_num, by go_num, HK⟩
        case measure => simp [intOf]; omega
      · have d1 : ((hh : Int) == 0) = false := beq_eq_false_iff_ne.2 (by omega)
        have d2 : ¬ (hh : Int) < 0 := by omega
        have HK := hide K
        clear K
        go_wp2_with fail
        refine (MU.out _).mono ?_
        rintro e w' ⟨rfl, rfl⟩
        go_wp2
        go_round
        case rel => exact ⟨r, Q, by go_num, by go_num, HK⟩
        case measure => simp [intOf]; omega
    · have e : P = 1 := by
        obtain ⟨s, m, e1, _⟩ := hrel.out
        have := Nat.two_pow_pos s
        omega
      subst e
      have E := hide (wroot_end hrel.out)
      have b : r ≤ 1152921504606846976 := by
        obtain ⟨s, m, _, _, _, e4, _⟩ := hrel.out
        omega
      have E4 : IntKind.i64.wrap (r : Int) = (r : Int) := IntWalk.i64_in _ (by omega)
      clear hrel
      go_wp2
      go_ret2
      exact ⟨by rw [E.out]; rfl, XB.out⟩
end Go.Proofs.YtdcdfjinbieblaaGreatDoor

namespace Go.Proofs.YtdcdfjinbieblaaGreatDoor
open Go Go.RowKit

/-- the corners of a face, with their levels -/
def cnV (l : List Spt) (f : Fce) : Array Value := #[.int .i64 (spA l f.a).x, .int .i64 (spA l f.a).y, .int .i64 (spA l f.a).z, .int .i64 (spA l f.b).x, .int .i64 (spA l f.b).y, .int .i64 (spA l f.b).z, .int .i64 (spA l f.c).x, .int .i64 (spA l f.c).y, .int .i64 (spA l f.c).z]
theorem spA_nat {l : List Spt} {i : Int} (h : 0 ≤ i ∧ i < l.length) : ∃ k : Nat, ∃ hk : k < l.length, i = (k : Int) ∧ spA l i = l[k] := by
  refine ⟨i.toNat, by omega, by omega, ?_⟩
  have hk : i.toNat < l.length := by omega
  simp [spA, hk]
set_option maxRecDepth 100000 in
set_option maxHeartbeats 4000000 in
theorem lccorners_any (m : Msh) (a : MshA) (i : Nat) (w : World) (hm : MshSl w m a) (hi : i < m.fs.length) (hk : OkF m.ss m.fs[i]) :
    Calls Tryz.prog 164 #[m.val a, .int .i64 (i : Int)] w (RetW (.agg (cnV m.ss m.fs[i])) w) := by
  obtain ⟨A1, c1, A2, c2⟩ := a
  have hlen : m.ss.length ≤ 9223372036854775807 := hm.1.1.1
  have hlen2 : m.fs.length ≤ 9223372036854775807 := hm.2.1.1
  obtain ⟨ka, hka, ea, sa⟩ := spA_nat hk.a
  obtain ⟨kb, hkb, eb, sb⟩ := spA_nat hk.b
  obtain ⟨kc, hkc, ec, sc⟩ := spA_nat hk.c
  obtain ⟨b, off, e, hbl, hat⟩ := hm.1.2 (by omega)
  have e' : A1 = some ⟨b, off, none⟩ := e
  subst e'
  obtain ⟨b', off', e, hbl', hat'⟩ := hm.2.2 (by omega)
  have e' : A2 = some ⟨b', off', none⟩ := e
  subst e'
  obtain ⟨f0, f1, f2, f3⟩ := hat' i hi
  obtain ⟨x0, y0, z0⟩ := hat ka hka
  obtain ⟨x1, y1, z1⟩ := hat kb hkb
  obtain ⟨x2, y2, z2⟩ := hat kc hkc
  unfold cnV
  rw [sa, sb, sc]
  rw [ea] at f0
  rw [eb] at f1
  rw [ec] at f2
  have X := ((Own.start w).alloc #[.slice (some ⟨b, off, none⟩) m.ss.length c1, .slice (some ⟨b', off', none⟩) m.fs.length c2] 65).alloc #[.int .i64 0, .int .i64 0, .int .i64 0, .int .i64 0, .int .i64 0, .int .i64 0, .int .i64 0, .int .i64 0, .int .i64 0] 210
  replace X := X.alloc #[.int .i64 (ka : Int), .int .i64 (kb : Int), .int .i64 (kc : Int), .int .i64 (m.fs[i]).k] 62
  simp only [World.size_alloc] at X
  generalize m.ss[ka] = s0 at *
  generalize m.ss[kb] = s1 at *
  generalize m.ss[kc] = s2 at *
  generalize (m.fs[i]).k = fk at *
  have g0 : (0 : Int) ≤ (i : Int) := by omega
  have g1 : (i : Int) < (m.fs.length : Int) := by omega
  have a0 : (0 : Int) ≤ (ka : Int) := by omega
  have a1 : (ka : Int) < (m.ss.length : Int) := by omega
  have b0 : (0 : Int) ≤ (kb : Int) := by omega
  have b1 : (kb : Int) < (m.ss.length : Int) := by omega
  have q0 : (0 : Int) ≤ (kc : Int) := by omega
  have q1 : (kc : Int) < (m.ss.length : Int) := by omega
  clear hat hat' hm hk ea eb ec sa sb sc hka hkb hkc hi
  have n1 : ¬ (b' = w.heap.size) := by omega
  have n2 : ¬ (b' = w.heap.size + 1) := by omega
  have n3 : w.heap.size < w.heap.size + 1 + 1 := by omega
  have NE := ownw_ne X
  have C1 := ownw_r3 X
  have D0 := ownw_old X hbl x0
  have D1 := ownw_old X hbl y0
  have D2 := ownw_old X hbl z0
  have D3 := ownw_old X hbl x1
  have D4 := ownw_old X hbl y1
  have D5 := ownw_old X hbl z1
  have D6 := ownw_old X hbl x2
  have D7 := ownw_old X hbl y2
  have D8 := ownw_old X hbl z2
  go_enter Tryz.func164, Tryz.ntmps164
  go_wp2
  refine wp_region_own_tail (w := w) 19 (by kernel_rfl) (by kernel_rfl) X ?_
  simp only [List.take_succ_cons, List.take_zero, List.drop_succ_cons, List.drop_zero]
  repeat (go_big_quiet_step (fail))
  refine wpQuiet_nil ?_
  rintro W ⟨⟨W, HO⟩, rfl⟩
  have hr := HO.r3
  go_wp2
  refine bodyPost_ret (v := .agg #[.int .i64 s0.x, .int .i64 s0.y, .int .i64 s0.z, .int .i64 s1.x, .int .i64 s1.y, .int .i64 s1.z, .int .i64 s2.x, .int .i64 s2.y, .int .i64 s2.z]) (by simp [results, Tryz.results164, hr, go_sem]) rfl ⟨rfl, ?_⟩
  have HB := HO.1
  have hz := HB.size
  go_grown
set_option maxHeartbeats 1000000 in
theorem lcat_any (s : Spt) (w : World) : Calls Tryz.prog 166 #[s.val] w (RetW s.pt.val w) := by
  have X := ((Own.start w).alloc #[.int .i64 s.x, .int .i64 s.y, .int .i64 s.z] 59).alloc #[.int .i64 0, .int .i64 0] 68
  simp only [World.size_alloc] at X
  have hr := X.r2
  have XB := hide X.1
  show Calls _ _ _ _ (RetW (.agg #[.int .i64 s.x, .int .i64 s.y]) w)
  go_enter Tryz.func166, Tryz.ntmps166
  go_wp2
  exact bodyPost_ret (v := .agg #[.int .i64 s.x, .int .i64 s.y]) (by simp [results, Tryz.results166, go_sem]) rfl ⟨rfl, by have HX := XB.out; have hz := HX.size; go_grown⟩
set_option maxHeartbeats 1000000 in
theorem lcturn_any (a b c : Pnt) (w : World) (ha : a.in) (hb : b.in) (hc : c.in) : Calls Tryz.prog 165 #[a.val, b.val, c.val] w (RetW (.int .i64 (trn a b c)) w) := by
  have X := (((Own.start w).alloc #[.int .i64 a.x, .int .i64 a.y] 68).alloc #[.int .i64 b.x, .int .i64 b.y] 68).alloc #[.int .i64 c.x, .int .i64 c.y] 68
  simp only [World.size_alloc] at X
  have hr := X.r3
  have XB := hide X.1
  obtain ⟨m1, m2⟩ := trn_bd ha hb hc
  obtain ⟨⟨a1, a2⟩, a3, a4⟩ := ha
  obtain ⟨⟨b1, b2⟩, b3, b4⟩ := hb
  obtain ⟨⟨c1, c2⟩, c3, c4⟩ := hc
  have E : Hid (trn a b c = (b.x - a.x) * (c.y - a.y) - (b.y - a.y) * (c.x - a.x)) := hide rfl
  generalize trn a b c = t at *
  have e1 := IntWalk.i64_in (b.x - a.x) (by omega)
  have e2 := IntWalk.i64_in (c.y - a.y) (by omega)
  have e3 := IntWalk.i64_in (b.y - a.y) (by omega)
  have e4 := IntWalk.i64_in (c.x - a.x) (by omega)
  obtain ⟨p, hp⟩ : ∃ p, p = (b.x - a.x) * (c.y - a.y) := ⟨_, rfl⟩
  obtain ⟨q, hq⟩ : ∃ q, q = (b.y - a.y) * (c.x - a.x) := ⟨_, rfl⟩
  rw [← hp, ← hq] at E
  rw [← hp] at m1
  rw [← hq] at m2
  have w1 : IntKind.i64.wrap ((b.x - a.x) * (c.y - a.y)) = p := by rw [← hp]; exact IntWalk.i64_in _ (by omega)
  have w2 : IntKind.i64.wrap ((b.y - a.y) * (c.x - a.x)) = q := by rw [← hq]; exact IntWalk.i64_in _ (by omega)
  have w3 := IntWalk.i64_in (p - q) (by omega)
  clear hp hq X
  go_enter Tryz.func165, Tryz.ntmps165
  go_wp2
  go_ret
  exact ⟨by rw [E.out]; rfl, XB.out⟩
end Go.Proofs.YtdcdfjinbieblaaGreatDoor

namespace Go.Proofs.YtdcdfjinbieblaaGreatDoor
open Go Go.RowKit

/-- the first side on the right of which a point is -/
def otA (t : Tri) (p : Pnt) : Int := if trn t.p t.q p < 0 then 0 else if trn t.q t.r p < 0 then 1 else if trn t.r t.p p < 0 then 2 else -1
theorem otA_on (t : Tri) (p : Pnt) : otA t p < 0 ↔ onB t p = true := by
  simp only [otA, onB, Bool.and_eq_true, decide_eq_true_eq]
  split
  · omega
  · split
    · omega
    · split <;> omega
abbrev cnC (s t u : Spt) : Array Value := #[.int .i64 s.x, .int .i64 s.y, .int .i64 s.z, .int .i64 t.x, .int .i64 t.y, .int .i64 t.z, .int .i64 u.x, .int .i64 u.y, .int .i64 u.z]
set_option maxRecDepth 100000 in
set_option maxHeartbeats 8000000 in
theorem lcouter_any (m : Msh) (a : MshA) (i : Nat) (p : Pnt) (w : World) (hm : MshSl w m a) (hi : i < m.fs.length) (hk : OkF m.ss m.fs[i]) (hp : p.in) :
    Calls Tryz.prog 172 #[m.val a, .int .i64 (i : Int), p.val] w (RetW (.int .i64 (otA (triA m.ss m.fs[i]) p)) w) := by
  have CR := hide (fun W h => lccorners_any m a i W h hi hk)
  have HM := hide hm
  unfold cnV RetW at CR
  have E : Hid (otA (triA m.ss m.fs[i]) p = otA ⟨(spA m.ss m.fs[i].a).pt, (spA m.ss m.fs[i].b).pt, (spA m.ss m.fs[i].c).pt⟩ p) := hide rfl
  have T0 := hide (fun W => lcturn_any (spA m.ss m.fs[i].a).pt (spA m.ss m.fs[i].b).pt p W hk.i.1 hk.i.2.1 hp)
  have T1 := hide (fun W => lcturn_any (spA m.ss m.fs[i].b).pt (spA m.ss m.fs[i].c).pt p W hk.i.2.1 hk.i.2.2 hp)
  have T2 := hide (fun W => lcturn_any (spA m.ss m.fs[i].c).pt (spA m.ss m.fs[i].a).pt p W hk.i.2.2 hk.i.1 hp)
  rw [E.out]
  clear hm hk hp E
  generalize spA m.ss m.fs[i].a = s at *
  generalize spA m.ss m.fs[i].b = t at *
  generalize spA m.ss m.fs[i].c = u at *
  have A0 := hide (fun W => lcat_any s W)
  have A1 := hide (fun W => lcat_any t W)
  have A2 := hide (fun W => lcat_any u W)
  unfold RetW at T0 T1 T2 A0 A1 A2
  have E : Hid (otA ⟨s.pt, t.pt, u.pt⟩ p = if trn s.pt t.pt p < 0 then 0 else if trn t.pt u.pt p < 0 then 1 else if trn u.pt s.pt p < 0 then 2 else -1) := hide rfl
  rw [E.out]
  clear E
  obtain ⟨R, hR⟩ : ∃ R : Int, R = if trn s.pt t.pt p < 0 then 0 else if trn t.pt u.pt p < 0 then 1 else if trn u.pt s.pt p < 0 then 2 else -1 := ⟨_, rfl⟩
  rw [← hR]
  replace hR := hide hR
  generalize trn s.pt t.pt p = n0 at *
  generalize trn t.pt u.pt p = n1 at *
  generalize trn u.pt s.pt p = n2 at *
  obtain ⟨A1', c1, A2', c2⟩ := a
  have X := ((Own.start w).alloc #[.slice A1' m.ss.length c1, .slice A2' m.fs.length c2] 65).alloc #[.int .i64 p.x, .int .i64 p.y] 68
  simp only [World.size_alloc] at X
  have hr := X.r2
  unfold Spt.pt at *
  obtain ⟨sx, sy, sz⟩ := s
  obtain ⟨tx, ty, tz⟩ := t
  obtain ⟨ux, uy, uz⟩ := u
  simp only at *
  go_enter Tryz.func172, Tryz.ntmps172
  go_wp2_with fail
  refine (CR.out _ (HM.out.below X.1)).mono ?_
  rintro e w1 ⟨rfl, hb⟩
  have HX := hide ((X.to hb).alloc #[.int .i64 sx, .int .i64 sy, .int .i64 sz, .int .i64 tx, .int .i64 ty, .int .i64 tz, .int .i64 ux, .int .i64 uy, .int .i64 uz] 210)
  clear hb hr X CR HM
  have hr := HX.out.r3
  go_wp2
  go_loopw [12] (fun v12 wr => ∃ k : Nat, k ≤ 3 ∧ v12 = .int .i64 k ∧ Hid (Own w wr [(w1.heap.size, 210, #[.int .i64 sx, .int .i64 sy, .int .i64 sz, .int .i64 tx, .int .i64 ty, .int .i64 tz, .int .i64 ux, .int .i64 uy, .int .i64 uz]), (w.heap.size + 1, 68, #[.int .i64 p.x, .int .i64 p.y]), (w.heap.size, 65, #[.slice A1' m.ss.length c1, .slice A2' m.fs.length c2])]) ∧ Hid ((0 < k → ¬ n0 < 0) ∧ (1 < k → ¬ n1 < 0) ∧ (2 < k → ¬ n2 < 0))) (fun v _ => 3 - (intOf v).toNat)
  case atStart => exact ⟨0, by omega, rfl, HX, hide ⟨by omega, by omega, by omega⟩⟩
  case round =>
    obtain ⟨k, hk, rfl, HX, HN⟩ := hrel
    have hr := HX.out.r3
    have NE := ownw_ne HX.out
    have C1 := ownw_r3 HX.out
    obtain rfl | rfl | rfl | rfl : k = 0 ∨ k = 1 ∨ k = 2 ∨ k = 3 := by omega
    · have s1 : IntKind.i64.wrap 1 = 1 := by decide
      have s2 : (1 : Int).tmod 3 = 1 := by decide
      go_upto_region 5 with (fail)
      refine wp_region_own (w := w) (by kernel_rfl) (by kernel_rfl) HX.out ?_
      repeat (go_big_quiet_step ((rename_i y; first | with_reducible exact own_call (A0.out _) | with_reducible exact own_call (A1.out _) | with_reducible exact own_call (A2.out _) | with_reducible exact own_call (T0.out _))))
      refine wpQuiet_nil ?_
      rintro _ ⟨⟨W, HW⟩, rfl⟩
      have HX2 := hide HW
      clear NE C1 HW hr
      by_cases h : n0 < 0
      · have HB := hide HX2.out.1
        have EQ : Hid (R = 0) := hide (by
          have := HN.out
          rw [hR.out, if_pos h])
        go_wp2
        go_ret
        exact ⟨ret_int EQ.out.symm, HB.out⟩
      · have HN2 : Hid ((0 < 1 → ¬ n0 < 0) ∧ (1 < 1 → ¬ n1 < 0) ∧ (2 < 1 → ¬ n2 < 0)) := hide (by
          have := HN.out
          exact ⟨by omega, by omega, by omega⟩)
        go_wp2
        go_roundw
        case rel => exact ⟨1, by omega, by go_num, HX2, HN2⟩
        case measure => simp [intOf]
    · have s1 : IntKind.i64.wrap 2 = 2 := by decide
      have s2 : (2 : Int).tmod 3 = 2 := by decide
      go_upto_region 5 with (fail)
      refine wp_region_own (w := w) (by kernel_rfl) (by kernel_rfl) HX.out ?_
      repeat (go_big_quiet_step ((rename_i y; first | with_reducible exact own_call (A0.out _) | with_reducible exact own_call (A1.out _) | with_reducible exact own_call (A2.out _) | with_reducible exact own_call (T1.out _))))
      refine wpQuiet_nil ?_
      rintro _ ⟨⟨W, HW⟩, rfl⟩
      have HX2 := hide HW
      clear NE C1 HW hr
      by_cases h : n1 < 0
      · have HB := hide HX2.out.1
        have EQ : Hid (R = 1) := hide (by
          have := HN.out
          rw [hR.out, if_neg (this.1 (by omega)), if_pos h])
        go_wp2
        go_ret
        exact ⟨ret_int EQ.out.symm, HB.out⟩
      · have HN2 : Hid ((0 < 2 → ¬ n0 < 0) ∧ (1 < 2 → ¬ n1 < 0) ∧ (2 < 2 → ¬ n2 < 0)) := hide (by
          have := HN.out
          exact ⟨by omega, by omega, by omega⟩)
        go_wp2
        go_roundw
        case rel => exact ⟨2, by omega, by go_num, HX2, HN2⟩
        case measure => simp [intOf]
    · have s1 : IntKind.i64.wrap 3 = 3 := by decide
      have s2 : (3 : Int).tmod 3 = 0 := by decide
      go_upto_region 5 with (fail)
      refine wp_region_own (w := w) (by kernel_rfl) (by kernel_rfl) HX.out ?_
      repeat (go_big_quiet_step ((rename_i y; first | with_reducible exact own_call (A0.out _) | with_reducible exact own_call (A1.out _) | with_reducible exact own_call (A2.out _) | with_reducible exact own_call (T2.out _))))
      refine wpQuiet_nil ?_
      rintro _ ⟨⟨W, HW⟩, rfl⟩
      have HX2 := hide HW
      clear NE C1 HW hr
      by_cases h : n2 < 0
      · have HB := hide HX2.out.1
        have EQ : Hid (R = 2) := hide (by
          have := HN.out
          rw [hR.out, if_neg (this.1 (by omega)), if_neg (this.2.1 (by omega)), if_pos h])
        go_wp2
        go_ret
        exact ⟨ret_int EQ.out.symm, HB.out⟩
      · have HN2 : Hid ((0 < 3 → ¬ n0 < 0) ∧ (1 < 3 → ¬ n1 < 0) ∧ (2 < 3 → ¬ n2 < 0)) := hide (by
          have := HN.out
          exact ⟨by omega, by omega, by omega⟩)
        go_wp2
        go_roundw
        case rel => exact ⟨3, by omega, by go_num, HX2, HN2⟩
        case measure => simp [intOf]
    · have EQ : Hid (R = -1) := hide (by
        have := HN.out
        rw [hR.out, if_neg (this.1 (by omega)), if_neg (this.2.1 (by omega)), if_neg (this.2.2 (by omega))])
      have HB := hide HX.out.1
      clear NE C1
      go_wp2
      go_ret
      exact ⟨ret_int EQ.out.symm, HB.out⟩
end Go.Proofs.YtdcdfjinbieblaaGreatDoor

namespace Go.Proofs.YtdcdfjinbieblaaGreatDoor
open Go.RowKit Go.ChangeShapes Go.WideShapes Go.ChangeAt

theorem own : ownKnob Tryz.prog.godebug = none := by kernel_rfl
theorem laidOut : laidOutB Tryz.prog = true := by kernel_rfl
section
variable {H : Type} {enc : TypeId × Value → H} {P : Program}
theorem trodAll_stays (hl : laidOutB P = true) {W W' : World} {sp : Nat → Bool} (hb : Below W.heap.size W W') :
    ∀ (ts : List TypeId) (vs : List Value) (ds : List (DataW H)) (ps : List MemPlace), ts.all (fun t => P.readableRec t && decide (t < P.types.size)) = true →
      DataW.TrodAll enc P W 0 (fun _ => true) true ts vs ds ps → (∀ p ∈ ps, p.block < W.heap.size) → (∀ p ∈ ps, sp p.block = true) → DataW.TrodAll enc P W' 0 sp true ts vs ds ps
  | [], vs, ds, ps, _, h, _, _ => by obtain ⟨rfl, rfl, rfl⟩ := trodAll_nil h; exact trodAll_mk0
  | t :: ts, vs, ds, ps, hr, h, hlt, hsp => by
    obtain ⟨v, vs', d, ds', p, q, rfl, rfl, rfl, h1, h2⟩ := trodAll_cons h
    simp only [List.all_cons, Bool.and_eq_true, decide_eq_true_eq] at hr
    exact trodAll_cons_mk (WideElems.Trod_stays hl hr.1.1 hr.1.2 h1 (fun x hx => hb.same (hlt x (by simp [hx]))) (fun x hx => hsp x (by simp [hx])))
      (trodAll_stays hl hb ts vs' ds' q hr.2 h2 (fun x hx => hlt x (by simp [hx])) (fun x hx => hsp x (by simp [hx])))
theorem trodAll_length : ∀ {w : World} {base : Nat} {sp : Nat → Bool} {hd : Bool} (ts : List TypeId) (vs : List Value) (ds : List (DataW H)) (ps : List MemPlace), DataW.TrodAll enc P w base sp hd ts vs ds ps → ds.length = ts.length
  | _, _, _, _, [], vs, ds, ps, h => by obtain ⟨rfl, rfl, rfl⟩ := trodAll_nil h; rfl
  | _, _, _, _, t :: ts, vs, ds, ps, h => by
    obtain ⟨v, vs', d, ds', p, q, rfl, rfl, rfl, h1, h2⟩ := trodAll_cons h
    simp [trodAll_length ts vs' ds' q h2]
theorem law_post {fn : Func} {s : ChangeSpec} {W W' : World} {args : Array Value} {ds gs : List (DataW H)} {before : List MemPlace} (hl : laidOutB P = true)
    (hread : fn.params.toList.all (fun t => P.readableRec t && decide (t < P.types.size)) = true) (hv : s.vars = []) (tb : TypeId) (hres : fn.resultTypes = #[tb]) (htb : P.underlying tb = some .bool)
    (hspec : ∀ ds : List (DataW H), ds.length = fn.params.size → s.fn H (ds ++ []) = { results := [.lit (.bool true)], args := ds })
    (hW : DataW.Whole enc P fn.params.toList s.vars false W args.toList ds gs before) (hb : Below W.heap.size W W') : s.post enc P fn false true false false W args (.bool true) W' := by
  have hW' := hW
  obtain ⟨p, q, hA, hV, hpq, _, _⟩ := hW
  rw [hv] at hV
  obtain ⟨rfl, rfl⟩ := trodVars_none hV
  have hlen : ds.length = fn.params.size := by simpa using trodAll_length _ _ _ _ hA
  have e := hspec ds hlen
  simp only [List.append_nil] at hpq
  subst hpq
  refine post_of_below (pa := before) (pv := []) hW' ?_ ?_ ?_ (by simp) hb ?_
  · intro b sp hd
    rw [e, hres]
    exact trodAll_mk1 (shut_bool htb true)
  · intro sp hsp
    rw [e]
    exact trodAll_stays hl hb _ _ _ _ hread hA (fun x hx => hW'.lt x hx) hsp
  · intro sp _
    rw [hv, e]
    rfl
  · exact ok_one hres rfl (okWide_bool_mk htb true)
end
end Go.Proofs.YtdcdfjinbieblaaGreatDoor
