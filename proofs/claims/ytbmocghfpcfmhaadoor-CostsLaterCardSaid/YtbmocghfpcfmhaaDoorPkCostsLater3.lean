/- Parts of one proof, joined: The program's wide integers: size, signed, times, whole, quotient, Scale: what each returns, where the high word is 0 or the divisor is 1; nothing that was there is turned. The program's wide quotient and Scale for any numbers (printed by gen_prod.py): what each returns; nothing that was there is turned. The rules that the walk uses of six to ten blocks of its own. Small functions of the program's surfaces: small, right, point, corners, turn, triangle, side: what each returns; nothing that was there is turned. math/bits.Add64 and Sub64 at a carry of 0: what each returns, here and now. The program's signed wide integers: placed, Valid, value, Add, Product, Floor, Ceil, Int, Of: what each returns where nothing is too great; nothing that was there is turned. The program's sums of wide numbers, words by words: sum: what it returns; nothing that was there is turned. Regions that draw their order, only read, and call functions that leave what was there as it is: one walk in the order of the text, in the class of the worlds in which the call's own blocks are whole. Regions that draw their order, of reads and calls that leave a class of worlds, ahead of some last operations that wait for all of them: one walk in the order of the text. The program's signed wide integers: Add, Product, Floor, Ceil, Int, Of: what each returns where nothing is too great; nothing that was there is turned. The program's signed wide integers: Product, Floor, Ceil, Int, Of: what each returns where nothing is too great; nothing that was there is turned. -/
import Derived.Test.YtbmocghfpcfmhaaDoorPkCostsLater1
import Derived.Deep.RegionHeld3
import Derived.Test.YtbmocghfpcfmhaaDoorPkCostsLater2
import Derived.Test.YtbmocghfpcfmhaaDoorShelf
import Derived.Deep.RegionWith
import Derived.Deep.QuietTactic
import Derived.BigQuiet
import Derived.Shelf.Spec.BitsCarry
import Derived.StillTail
namespace Go.Proofs.YtbmocghfpcfmhaaDoor
open Go.RowKit

set_option maxHeartbeats 400000 in
theorem wsize_any (n : Int) (w : World) (h1 : -9223372036854775808 ≤ n) (h2 : n ≤ 9223372036854775807) :
    Calls Tryd.prog 26 #[.int .i64 n] w fun e w' => e = .returned (.int .u64 (n.natAbs : Int)) ∧ w = w' := by
  by_cases h : n < 0
  all_goals
    go_enter Tryd.func26, Tryd.ntmps26
    go_wp2
    go_ret
    refine ⟨ret_int ?_, rfl⟩
    try simp only [IntKind.wrap_u64]
    omega
set_option maxHeartbeats 400000 in
theorem signed_any (h l : Int) (b : Bool) (w : World) :
    Calls Tryd.prog 25 #[.int .u64 h, .int .u64 l, .bool b] w fun e w' => e = .returned (.agg #[.int .u64 h, .int .u64 l, .bool (b && (h != 0 || l != 0))]) ∧ Below w.heap.size w w' := by
  cases b
  · go_enter Tryd.func25, Tryd.ntmps25
    go_wp2
    refine bodyPost_ret (v := .agg #[.int .u64 h, .int .u64 l, .bool false]) (by simp [results, Tryd.results25, go_sem]) rfl ⟨rfl, by go_grown⟩
  · rcases Bool.eq_false_or_eq_true (h != 0) with k | k
    all_goals
      go_enter Tryd.func25, Tryd.ntmps25
      go_wp2
      refine bodyPost_ret (v := .agg #[.int .u64 h, .int .u64 l, .bool (true && (h != 0 || l != 0))]) (by simp [results, Tryd.results25, go_sem, k]) rfl ⟨rfl, by go_grown⟩
set_option maxHeartbeats 400000 in
theorem times_any (a b : Int) (w : World) (h1 : -9223372036854775808 ≤ a) (h2 : a ≤ 9223372036854775807) (h3 : -9223372036854775808 ≤ b) (h4 : b ≤ 9223372036854775807) :
    Calls Tryd.prog 19 #[.int .i64 a, .int .i64 b] w fun e w' => e = .returned (WN (a * b)) ∧ Below w.heap.size w w' := by
  have ha : a.natAbs < 18446744073709551616 := by omega
  have hb : b.natAbs < 18446744073709551616 := by omega
  have X := (Own.start w).alloc #[.int .u64 0, .int .u64 0, .bool false] 64
  have HW := hide (wn_mul a b)
  go_enter Tryd.func19, Tryd.ntmps19
  go_wp2_with fail
  refine (wsize_any _ _ h1 h2).mono ?_
  rintro e w' ⟨rfl, rfl⟩
  go_wp2_with fail
  refine (wsize_any _ _ h3 h4).mono ?_
  rintro e w' ⟨rfl, rfl⟩
  go_wp2_with fail
  refine (Tryd.bits_Mul64 _ _ ha hb _).mono ?_
  rintro e w' ⟨rfl, rfl⟩
  go_wp2_with fail
  refine (signed_any _ _ _ _).mono ?_
  rintro e w1 ⟨rfl, hb1⟩
  replace X := X.to hb1
  clear hb1
  have hr := X.r1
  go_wp2
  refine bodyPost_ret (v := .agg #[.int .u64 ((a.natAbs * b.natAbs / 18446744073709551616 : Nat) : Int), .int .u64 ((a.natAbs * b.natAbs % 18446744073709551616 : Nat) : Int), .bool ((decide (a < 0) != decide (b < 0)) && (((a.natAbs * b.natAbs / 18446744073709551616 : Nat) : Int) != 0 || ((a.natAbs * b.natAbs % 18446744073709551616 : Nat) : Int) != 0))]) (by simp [results, Tryd.results19, hr, go_sem]; cases decide (a < 0) <;> cases decide (b < 0) <;> rfl) rfl ⟨by rw [HW.out], ?_⟩
  have HX := X.1
  have hz := HX.size
  go_grown
set_option maxHeartbeats 400000 in
theorem whole_any (n : Int) (b : Bool) (w : World) (h0 : 0 ≤ n) (h1 : n ≤ 18446744073709551615) :
    Calls Tryd.prog 30 #[.int .u64 n, .bool b] w fun e w' => e = .returned (.tuple #[.int .i64 (i64V (sgn n b)), .int .i64 (i64E (sgn n b))]) ∧ w = w' := by
  have hc : i64B (sgn n b) = true ∨ i64B (sgn n b) = false := by cases i64B (sgn n b) <;> simp
  cases b
  · by_cases h : n ≤ 9223372036854775807
    · have E := hide (i64_yes (x := sgn n false) (i64B_iff.2 (by simp [sgn]; omega)))
      clear hc
      go_enter Tryd.func30, Tryd.ntmps30
      go_wp2
      go_ret2
      exact ⟨ret2_int (by rw [E.out.2]; rfl) (by rw [E.out.1]), rfl⟩
    · have E := hide (i64_no (x := sgn n false) (by simp [i64B, sgn]; omega))
      clear hc
      go_enter Tryd.func30, Tryd.ntmps30
      go_wp2
      go_ret2
      exact ⟨ret2_int (by rw [E.out.2]) (by rw [E.out.1]), rfl⟩
  · by_cases h : n ≤ 9223372036854775808
    · have E := hide (i64_yes (x := sgn n true) (i64B_iff.2 (by simp [sgn]; omega)))
      clear hc
      go_enter Tryd.func30, Tryd.ntmps30
      go_wp2
      go_ret2
      refine ⟨ret2_int ?_ (by rw [E.out.1]), rfl⟩
      rw [E.out.2]
      simp only [sgn, if_true, IntKind.wrap_u64, wrap64]
      omega
    · have E := hide (i64_no (x := sgn n true) (by simp [i64B, sgn]; omega))
      clear hc
      go_enter Tryd.func30, Tryd.ntmps30
      go_wp2
      go_ret2
      exact ⟨ret2_int (by rw [E.out.2]) (by rw [E.out.1]), rfl⟩
theorem below_dn {B : Nat} {a w : World} (h : Below B a w) (n : Nat) : Below B a (w.drewN n) := ⟨h.os, h.tape, h.output, h.size, h.block⟩
theorem quo_parts {v b : Int} {m : Nat} {ng : Bool} (hb : b ≠ 0) (hm : v.natAbs = m) (hn : decide (v < 0) = ng) (u : Bool) : ∃ q r : Nat, q = m / b.natAbs ∧ r = m % b.natAbs ∧ (r ≠ 0 → q ≤ m / 2) ∧ q ≤ m ∧
    quo v b u = sgn ((q : Int) + if r ≠ 0 ∧ ((ng != decide (b < 0)) != u) = true then 1 else 0) (ng != decide (b < 0)) := by
  refine ⟨_, _, rfl, rfl, fun hr => ?_, Nat.div_le_self _ _, ?_⟩
  · have : b.natAbs ≠ 1 := fun e => hr (by rw [e, Nat.mod_one])
    exact Nat.div_le_div_left (by omega) (by omega)
  · rw [quo_magn hb u]
    unfold magn sgn
    rw [hm, hn]
    split <;> split <;> simp
theorem sgn_pos {x : Int} (hx : 0 ≤ x) : sgn x (decide (0 < x)) = sgn x true := by
  by_cases h : 0 < x
  · simp [sgn, h]
  · have : x = 0 := by omega
    subst this; rfl
def QuoPost (v b : Int) (u : Bool) (w : World) (e : Ending) (w' : World) : Prop := e = .returned (.tuple #[.int .i64 (i64V (quo v b u)), .int .i64 (i64E (quo v b u))]) ∧ Below w.heap.size w w'
theorem QuoPost.mk {v b : Int} {u : Bool} {w w' : World} {x : Int} (h : quo v b u = x) (hb : Below w.heap.size w w') : QuoPost v b u w (.returned (.tuple #[.int .i64 (i64V x), .int .i64 (i64E x)])) w' := by subst h; exact ⟨rfl, hb⟩
set_option maxHeartbeats 4000000 in
theorem quotient_low {v b : Int} {m : Nat} {ng : Bool} (hb : b ≠ 0) (hm : v.natAbs = m) (hn : decide (v < 0) = ng) (u : Bool) (w : World) (hm' : m < 18446744073709551616) (h1 : -9223372036854775808 ≤ b) (h2 : b ≤ 9223372036854775807) :
    Calls Tryd.prog 20 #[.agg #[.int .u64 0, .int .u64 m, .bool ng], .int .i64 b, .bool u] w (QuoPost v b u w) := by
  obtain ⟨q, r, hq, hr, hq2, hqm, HQ⟩ := quo_parts hb hm hn u
  replace HQ := hide HQ
  have Hq := hide hq
  have Hr := hide hr
  have d0 : 0 < b.natAbs := by omega
  have d1 : ¬ ((0 : Int) ≥ (b.natAbs : Int)) := by omega
  have d2 : b.natAbs < 18446744073709551616 := by omega
  have X := (Own.start w).alloc #[.int .u64 0, .int .u64 m, .bool ng] 64
  clear hq hr hm hn hb
  by_cases hr0 : r = 0
  · have HR0 := hide hr0
    have g1 : decide (0 < r) = false := by simp; omega
    clear hr0 hq2
    rcases Bool.eq_false_or_eq_true (decide (b < 0)) with hbn | hbn
    all_goals
      have HB := hide hbn
      cases ng
      all_goals
        go_enter Tryd.func20, Tryd.ntmps20
        go_wp2_with fail
        refine (wsize_any _ _ h1 h2).mono ?_
        rintro e w' ⟨rfl, rfl⟩
        have hr := X.r1
        go_wp2_with fail
        refine (div64_low m b.natAbs hm' d0 d2 _).mono ?_
        rintro e w1 ⟨rfl, nn, rfl⟩
        rw [← Hq.out, ← Hr.out]
        go_wp2_with fail
        refine (whole_any _ _ _ (by omega) (by omega)).mono ?_
        rintro e w' ⟨rfl, rfl⟩
        go_wp2
        go_ret2
        refine QuoPost.mk ?_ (below_dn X.1 nn)
        rw [HQ.out, HR0.out]
        have hq0 : (0 : Int) ≤ (q : Int) := by omega
        simp [HB.out, sgn] <;> omega
  · have HR0 := hide hr0
    have hq3 := hq2 hr0
    have g1 : decide (0 < r) = true := by simp; omega
    have g2 : ((q : Int) + 1 == 0) = false := by simp; omega
    have g3 : IntKind.u64.wrap ((q : Int) + 1) = (q : Int) + 1 := by rw [IntKind.wrap_u64]; omega
    clear hr0 hq2
    rcases Bool.eq_false_or_eq_true (decide (b < 0)) with hbn | hbn
    all_goals
      have HB := hide hbn
      cases ng
      all_goals
        cases u
        all_goals
          go_enter Tryd.func20, Tryd.ntmps20
          go_wp2_with fail
          refine (wsize_any _ _ h1 h2).mono ?_
          rintro e w' ⟨rfl, rfl⟩
          have hr := X.r1
          go_wp2_with fail
          refine (div64_low m b.natAbs hm' d0 d2 _).mono ?_
          rintro e w1 ⟨rfl, nn, rfl⟩
          rw [← Hq.out, ← Hr.out]
          go_wp2_with fail
          refine (whole_any _ _ _ (by omega) (by omega)).mono ?_
          rintro e w' ⟨rfl, rfl⟩
          go_wp2
          go_ret2
          refine QuoPost.mk ?_ (below_dn X.1 nn)
          rw [HQ.out]
          have hq0 : (0 : Int) ≤ (q : Int) := by omega
          simp [HB.out, HR0.out, sgn] <;> omega
theorem quotient_big {v b : Int} (hd : b.natAbs ≤ v.natAbs / 18446744073709551616) (hb : b ≠ 0) (u : Bool) (w : World) (h1 : -9223372036854775808 ≤ b) (h2 : b ≤ 9223372036854775807) :
    Calls Tryd.prog 20 #[WN v, .int .i64 b, .bool u] w (QuoPost v b u w) := by
  have hx : i64B (quo v b u) = false := by
    have hm : 18446744073709551616 ≤ magn v b u := by
      unfold magn
      have : 18446744073709551616 ≤ v.natAbs / b.natAbs := by
        rw [Nat.le_div_iff_mul_le (by omega)]
        have := Nat.div_mul_le_self v.natAbs 18446744073709551616
        have := Nat.mul_le_mul_left 18446744073709551616 hd
        omega
      omega
    rw [quo_magn hb u]
    simp only [i64B, decide_eq_false_iff_not]
    split <;> omega
  have E := hide (i64_no hx)
  have X := (Own.start w).alloc #[.int .u64 ((v.natAbs / 18446744073709551616 : Nat) : Int), .int .u64 ((v.natAbs % 18446744073709551616 : Nat) : Int), .bool (decide (v < 0))] 64
  have hd' : ((b.natAbs : Nat) : Int) ≤ ((v.natAbs / 18446744073709551616 : Nat) : Int) := by omega
  have E2 : QuoPost v b u w (.returned (.tuple #[.int .i64 0, .int .i64 5])) (w.alloc (.cells #[.int .u64 ((v.natAbs / 18446744073709551616 : Nat) : Int), .int .u64 ((v.natAbs % 18446744073709551616 : Nat) : Int), .bool (decide (v < 0))] 64)) := by
    refine ⟨?_, X.1⟩
    rw [E.out.1, E.out.2]
  have HE := hide E2
  clear hx hd hb E2
  unfold WN
  generalize ((v.natAbs / 18446744073709551616 : Nat) : Int) = hi at *
  generalize ((v.natAbs % 18446744073709551616 : Nat) : Int) = lo at *
  generalize decide (v < 0) = ng at *
  go_enter Tryd.func20, Tryd.ntmps20
  go_wp2_with fail
  refine (wsize_any _ _ h1 h2).mono ?_
  rintro e w' ⟨rfl, rfl⟩
  have hr := X.r1
  go_wp2
  go_ret2
  exact HE.out
theorem quotient_any {v b : Int} (hp : v.natAbs < 18446744073709551616 ∨ b.natAbs = 1) (hb : b ≠ 0) (u : Bool) (w : World) (h1 : -9223372036854775808 ≤ b) (h2 : b ≤ 9223372036854775807) :
    Calls Tryd.prog 20 #[WN v, .int .i64 b, .bool u] w (QuoPost v b u w) := by
  by_cases h : v.natAbs < 18446744073709551616
  · have e : WN v = .agg #[.int .u64 0, .int .u64 (v.natAbs : Int), .bool (decide (v < 0))] := by
      unfold WN
      rw [Nat.div_eq_of_lt h, Nat.mod_eq_of_lt h]
      rfl
    rw [e]
    exact quotient_low hb rfl rfl u w h h1 h2
  · exact quotient_big (by omega) hb u w h1 h2
theorem scE_cases (n m d : Int) (h : d ≠ 0) : (scE n m d = 0 ∧ i64B (dn (n * m) d) = true ∧ i64B (up (n * m) d) = true ∧ scLo n m d = dn (n * m) d ∧ scHi n m d = up (n * m) d) ∨
    (i64B (dn (n * m) d) = false ∧ scE n m d = 5 ∧ scLo n m d = 0 ∧ scHi n m d = 0) ∨ (i64B (dn (n * m) d) = true ∧ i64B (up (n * m) d) = false ∧ scE n m d = 5 ∧ scLo n m d = 0 ∧ scHi n m d = 0) := by
  unfold scE scLo scHi
  cases h1 : i64B (dn (n * m) d) <;> cases h2 : i64B (up (n * m) d) <;> simp [h]
set_option maxHeartbeats 1000000 in
theorem scale_any (n m d : Int) (w : World) (hd : d ≠ 0) (hp : (n * m).natAbs < 18446744073709551616 ∨ d.natAbs = 1) (h1 : -9223372036854775808 ≤ n) (h2 : n ≤ 9223372036854775807) (h3 : -9223372036854775808 ≤ m) (h4 : m ≤ 9223372036854775807) (h5 : -9223372036854775808 ≤ d) (h6 : d ≤ 9223372036854775807) :
    Calls Tryd.prog 9 #[.int .i64 n, .int .i64 m, .int .i64 d] w fun e w' => e = .returned (.tuple #[.int .i64 (scLo n m d), .int .i64 (scHi n m d), .int .i64 (scE n m d)]) ∧ Below w.heap.size w w' := by
  have hd' : (d == 0) = false := by simp [hd]
  have H0 := hide hd
  have HP := hide hp
  clear hp hd
  rcases scE_cases n m d H0.out with ⟨e1, e2, e3, e4, e5⟩ | ⟨e2, e1, e4, e5⟩ | ⟨e2, e3, e1, e4, e5⟩
  · have q1 := hide (i64_yes (x := quo (n * m) d false) e2)
    have q2 := hide (i64_yes (x := quo (n * m) d true) e3)
    rw [e1, e4, e5]
    clear e1 e2 e3 e4 e5
    go_enter Tryd.func9, Tryd.ntmps9
    go_wp2_with fail
    refine (times_any n m _ h1 h2 h3 h4).mono ?_
    rintro e w1 ⟨rfl, hb⟩
    have X := ((Own.start w).to hb).alloc #[.int .u64 (((n * m).natAbs / 18446744073709551616 : Nat) : Int), .int .u64 (((n * m).natAbs % 18446744073709551616 : Nat) : Int), .bool (decide (n * m < 0))] 64
    clear hb
    have hr := X.r1
    go_wp2_with fail
    refine (quotient_any (v := n * m) HP.out H0.out false _ h5 h6).mono ?_
    rintro e w2 ⟨rfl, hb⟩
    replace X := X.to hb
    clear hb hr
    have hr := X.r1
    rw [q1.out.1, q1.out.2]
    go_wp2_with fail
    refine (quotient_any (v := n * m) HP.out H0.out true _ h5 h6).mono ?_
    rintro e w3 ⟨rfl, hb⟩
    replace X := X.to hb
    clear hb hr
    rw [q2.out.1, q2.out.2]
    go_wp2
    go_ret3
    exact ⟨rfl, X.1⟩
  · have q1 := hide (i64_no (x := quo (n * m) d false) e2)
    rw [e1, e4, e5]
    clear e1 e2 e4 e5
    go_enter Tryd.func9, Tryd.ntmps9
    go_wp2_with fail
    refine (times_any n m _ h1 h2 h3 h4).mono ?_
    rintro e w1 ⟨rfl, hb⟩
    have X := ((Own.start w).to hb).alloc #[.int .u64 (((n * m).natAbs / 18446744073709551616 : Nat) : Int), .int .u64 (((n * m).natAbs % 18446744073709551616 : Nat) : Int), .bool (decide (n * m < 0))] 64
    clear hb
    have hr := X.r1
    go_wp2_with fail
    refine (quotient_any (v := n * m) HP.out H0.out false _ h5 h6).mono ?_
    rintro e w2 ⟨rfl, hb⟩
    replace X := X.to hb
    clear hb hr
    rw [q1.out.1, q1.out.2]
    go_wp2
    go_ret3
    exact ⟨rfl, X.1⟩
  · have q1 := hide (i64_yes (x := quo (n * m) d false) e2)
    have q2 := hide (i64_no (x := quo (n * m) d true) e3)
    rw [e1, e4, e5]
    clear e1 e2 e3 e4 e5
    go_enter Tryd.func9, Tryd.ntmps9
    go_wp2_with fail
    refine (times_any n m _ h1 h2 h3 h4).mono ?_
    rintro e w1 ⟨rfl, hb⟩
    have X := ((Own.start w).to hb).alloc #[.int .u64 (((n * m).natAbs / 18446744073709551616 : Nat) : Int), .int .u64 (((n * m).natAbs % 18446744073709551616 : Nat) : Int), .bool (decide (n * m < 0))] 64
    clear hb
    have hr := X.r1
    go_wp2_with fail
    refine (quotient_any (v := n * m) HP.out H0.out false _ h5 h6).mono ?_
    rintro e w2 ⟨rfl, hb⟩
    replace X := X.to hb
    clear hb hr
    have hr := X.r1
    rw [q1.out.1, q1.out.2]
    go_wp2_with fail
    refine (quotient_any (v := n * m) HP.out H0.out true _ h5 h6).mono ?_
    rintro e w3 ⟨rfl, hb⟩
    replace X := X.to hb
    clear hb hr
    rw [q2.out.1, q2.out.2]
    go_wp2
    go_ret3
    exact ⟨rfl, X.1⟩
end Go.Proofs.YtbmocghfpcfmhaaDoor

namespace Go.Proofs.YtbmocghfpcfmhaaDoor
open Go.RowKit

theorem QuoPost.big {v b : Int} {u : Bool} {w w' : World} {x : Int} (h : quo v b u = x) (hx : i64B x = false) (hb : Below w.heap.size w w') : QuoPost v b u w (.returned (.tuple #[.int .i64 0, .int .i64 5])) w' := by
  subst h
  refine ⟨?_, hb⟩
  rw [(i64_no hx).1, (i64_no hx).2]
theorem quo_lt {m h l b q : Nat} (hm : m = h * 18446744073709551616 + l) (hl : l < 18446744073709551616) (hh : h < b) (hq : q = m / b) : q < 18446744073709551616 := by
  rw [hq]
  refine (Nat.div_lt_iff_lt_mul (by omega)).2 ?_
  have : (h + 1) * 18446744073709551616 ≤ b * 18446744073709551616 := Nat.mul_le_mul_right _ hh
  omega
set_option maxRecDepth 100000 in
set_option maxHeartbeats 4000000 in
theorem quotient_gen {v b : Int} {h l : Nat} {ng : Bool} (hb : b ≠ 0) (hm : v.natAbs = h * 18446744073709551616 + l) (hl : l < 18446744073709551616) (hn : decide (v < 0) = ng) (hh : h < b.natAbs) (u : Bool) (w : World) (h1 : -9223372036854775808 ≤ b) (h2 : b ≤ 9223372036854775807) :
    Calls Tryd.prog 20 #[.agg #[.int .u64 (h : Int), .int .u64 (l : Int), .bool ng], .int .i64 b, .bool u] w (QuoPost v b u w) := by
  obtain ⟨q, r, hq, hr, hq2, hqm, HQ⟩ := quo_parts hb hm hn u
  replace HQ := hide HQ
  have ql := quo_lt rfl hl hh hq
  have Hq := hide hq
  have Hr := hide hr
  have d1 : ¬ ((h : Int) ≥ (b.natAbs : Int)) := by omega
  have d2 : b.natAbs < 18446744073709551616 := by omega
  have d3 : decide ((b.natAbs : Int) ≤ (h : Int)) = false := decide_eq_false (by omega)
  have d4 : decide (b.natAbs ≤ h) = false := decide_eq_false (by omega)
  have DV := hide (fun W => div64_any h l b.natAbs hh hl d2 W)
  have X := (Own.start w).alloc #[.int .u64 (h : Int), .int .u64 (l : Int), .bool ng] 64
  clear hq hr hm hn hb hq2 hqm hl
  by_cases hr0 : r = 0
  · have HR0 := hide hr0
    have g1 : decide (0 < r) = false := by simp; omega
    clear hr0
    rcases Bool.eq_false_or_eq_true (decide (b < 0)) with hbn | hbn
    all_goals
      have HB := hide hbn
      cases ng
      all_goals
        go_enter Tryd.func20, Tryd.ntmps20
        go_wp2_with fail
        refine (wsize_any _ _ h1 h2).mono ?_
        rintro e w' ⟨rfl, rfl⟩
        have hr := X.r1
        go_wp2_with fail
        refine (DV.out _).mono ?_
        rintro e w1 ⟨rfl, nn, rfl⟩
        rw [← Hq.out, ← Hr.out]
        go_wp2_with fail
        refine (whole_any _ _ _ (by omega) (by omega)).mono ?_
        rintro e w' ⟨rfl, rfl⟩
        go_wp2
        go_ret2
        refine QuoPost.mk ?_ (below_dn X.1 nn)
        rw [HQ.out, HR0.out]
        have hq0 : (0 : Int) ≤ (q : Int) := by omega
        simp [HB.out, sgn] <;> omega
  · have HR0 := hide hr0
    have g1 : decide (0 < r) = true := by simp; omega
    clear hr0
    by_cases hq4 : q + 1 < 18446744073709551616
    · have g2 : ((q : Int) + 1 == 0) = false := by simp; omega
      have g3 : IntKind.u64.wrap ((q : Int) + 1) = (q : Int) + 1 := by rw [IntKind.wrap_u64]; omega
      rcases Bool.eq_false_or_eq_true (decide (b < 0)) with hbn | hbn
      all_goals
        have HB := hide hbn
        cases ng
        all_goals
          cases u
          all_goals
            go_enter Tryd.func20, Tryd.ntmps20
            go_wp2_with fail
            refine (wsize_any _ _ h1 h2).mono ?_
            rintro e w' ⟨rfl, rfl⟩
            have hr := X.r1
            go_wp2_with fail
            refine (DV.out _).mono ?_
            rintro e w1 ⟨rfl, nn, rfl⟩
            rw [← Hq.out, ← Hr.out]
            go_wp2_with fail
            refine (whole_any _ _ _ (by omega) (by omega)).mono ?_
            rintro e w' ⟨rfl, rfl⟩
            go_wp2
            go_ret2
            refine QuoPost.mk ?_ (below_dn X.1 nn)
            rw [HQ.out]
            have hq0 : (0 : Int) ≤ (q : Int) := by omega
            simp [HB.out, HR0.out, sgn] <;> omega
    · have eq : q = 18446744073709551615 := by omega
      subst eq
      have g3 : IntKind.u64.wrap (((18446744073709551615 : Nat) : Int) + 1) = 0 := by decide
      clear hq4 ql
      rcases Bool.eq_false_or_eq_true (decide (b < 0)) with hbn | hbn
      all_goals
        have HB := hide hbn
        cases ng
        all_goals
          cases u
          all_goals
            go_enter Tryd.func20, Tryd.ntmps20
            go_wp2_with fail
            refine (wsize_any _ _ h1 h2).mono ?_
            rintro e w' ⟨rfl, rfl⟩
            have hr := X.r1
            go_wp2_with fail
            refine (DV.out _).mono ?_
            rintro e w1 ⟨rfl, nn, rfl⟩
            rw [← Hq.out, ← Hr.out]
            first
              | (go_wp2_with fail
                 refine (whole_any 18446744073709551615 _ _ (by omega) (by omega)).mono ?_
                 rintro e w' ⟨rfl, rfl⟩
                 go_wp2
                 go_ret2
                 refine QuoPost.mk ?_ (below_dn X.1 nn)
                 rw [HQ.out]
                 simp [HB.out, HR0.out, sgn]
                 done)
              | (go_wp2
                 go_ret2
                 refine QuoPost.big (x := 18446744073709551616) ?_ (by decide) (below_dn X.1 nn)
                 rw [HQ.out]
                 simp [HB.out, HR0.out, sgn]
                 done)
              | (go_wp2
                 go_ret2
                 refine QuoPost.big (x := -18446744073709551616) ?_ (by decide) (below_dn X.1 nn)
                 rw [HQ.out]
                 simp [HB.out, HR0.out, sgn]
                 done)
theorem quotient_full {v b : Int} (hb : b ≠ 0) (u : Bool) (w : World) (h1 : -9223372036854775808 ≤ b) (h2 : b ≤ 9223372036854775807) :
    Calls Tryd.prog 20 #[WN v, .int .i64 b, .bool u] w (QuoPost v b u w) := by
  by_cases h : v.natAbs / 18446744073709551616 < b.natAbs
  · exact quotient_gen hb (by omega) (by omega) rfl h u w h1 h2
  · exact quotient_big (by omega) hb u w h1 h2
set_option maxHeartbeats 1000000 in
theorem scale_full (n m d : Int) (w : World) (hd : d ≠ 0) (h1 : -9223372036854775808 ≤ n) (h2 : n ≤ 9223372036854775807) (h3 : -9223372036854775808 ≤ m) (h4 : m ≤ 9223372036854775807) (h5 : -9223372036854775808 ≤ d) (h6 : d ≤ 9223372036854775807) :
    Calls Tryd.prog 9 #[.int .i64 n, .int .i64 m, .int .i64 d] w fun e w' => e = .returned (.tuple #[.int .i64 (scLo n m d), .int .i64 (scHi n m d), .int .i64 (scE n m d)]) ∧ Below w.heap.size w w' := by
  have hd' : (d == 0) = false := by simp [hd]
  have H0 := hide hd
  clear hd
  rcases scE_cases n m d H0.out with ⟨e1, e2, e3, e4, e5⟩ | ⟨e2, e1, e4, e5⟩ | ⟨e2, e3, e1, e4, e5⟩
  · have q1 := hide (i64_yes (x := quo (n * m) d false) e2)
    have q2 := hide (i64_yes (x := quo (n * m) d true) e3)
    rw [e1, e4, e5]
    clear e1 e2 e3 e4 e5
    go_enter Tryd.func9, Tryd.ntmps9
    go_wp2_with fail
    refine (times_any n m _ h1 h2 h3 h4).mono ?_
    rintro e w1 ⟨rfl, hb⟩
    have X := ((Own.start w).to hb).alloc #[.int .u64 (((n * m).natAbs / 18446744073709551616 : Nat) : Int), .int .u64 (((n * m).natAbs % 18446744073709551616 : Nat) : Int), .bool (decide (n * m < 0))] 64
    clear hb
    have hr := X.r1
    go_wp2_with fail
    refine (quotient_full (v := n * m) H0.out false _ h5 h6).mono ?_
    rintro e w2 ⟨rfl, hb⟩
    replace X := X.to hb
    clear hb hr
    have hr := X.r1
    rw [q1.out.1, q1.out.2]
    go_wp2_with fail
    refine (quotient_full (v := n * m) H0.out true _ h5 h6).mono ?_
    rintro e w3 ⟨rfl, hb⟩
    replace X := X.to hb
    clear hb hr
    rw [q2.out.1, q2.out.2]
    go_wp2
    go_ret3
    exact ⟨rfl, X.1⟩
  · have q1 := hide (i64_no (x := quo (n * m) d false) e2)
    rw [e1, e4, e5]
    clear e1 e2 e4 e5
    go_enter Tryd.func9, Tryd.ntmps9
    go_wp2_with fail
    refine (times_any n m _ h1 h2 h3 h4).mono ?_
    rintro e w1 ⟨rfl, hb⟩
    have X := ((Own.start w).to hb).alloc #[.int .u64 (((n * m).natAbs / 18446744073709551616 : Nat) : Int), .int .u64 (((n * m).natAbs % 18446744073709551616 : Nat) : Int), .bool (decide (n * m < 0))] 64
    clear hb
    have hr := X.r1
    go_wp2_with fail
    refine (quotient_full (v := n * m) H0.out false _ h5 h6).mono ?_
    rintro e w2 ⟨rfl, hb⟩
    replace X := X.to hb
    clear hb hr
    rw [q1.out.1, q1.out.2]
    go_wp2
    go_ret3
    exact ⟨rfl, X.1⟩
  · have q1 := hide (i64_yes (x := quo (n * m) d false) e2)
    have q2 := hide (i64_no (x := quo (n * m) d true) e3)
    rw [e1, e4, e5]
    clear e1 e2 e3 e4 e5
    go_enter Tryd.func9, Tryd.ntmps9
    go_wp2_with fail
    refine (times_any n m _ h1 h2 h3 h4).mono ?_
    rintro e w1 ⟨rfl, hb⟩
    have X := ((Own.start w).to hb).alloc #[.int .u64 (((n * m).natAbs / 18446744073709551616 : Nat) : Int), .int .u64 (((n * m).natAbs % 18446744073709551616 : Nat) : Int), .bool (decide (n * m < 0))] 64
    clear hb
    have hr := X.r1
    go_wp2_with fail
    refine (quotient_full (v := n * m) H0.out false _ h5 h6).mono ?_
    rintro e w2 ⟨rfl, hb⟩
    replace X := X.to hb
    clear hb hr
    have hr := X.r1
    rw [q1.out.1, q1.out.2]
    go_wp2_with fail
    refine (quotient_full (v := n * m) H0.out true _ h5 h6).mono ?_
    rintro e w3 ⟨rfl, hb⟩
    replace X := X.to hb
    clear hb hr
    rw [q2.out.1, q2.out.2]
    go_wp2
    go_ret3
    exact ⟨rfl, X.1⟩
end Go.Proofs.YtbmocghfpcfmhaaDoor

namespace Go.Proofs.YtbmocghfpcfmhaaDoor

theorem Own.r6 {w W : World} {b0 b1 b2 b3 b4 b5 : Nat} {t0 t1 t2 t3 t4 t5 : TypeId} {c0 c1 c2 c3 c4 c5 : Array Value} {L} (h : Own w W ((b0, t0, c0) :: (b1, t1, c1) :: (b2, t2, c2) :: (b3, t3, c3) :: (b4, t4, c4) :: (b5, t5, c5) :: L)) :
    ((∀ i, W.cell? ⟨b0, i, none⟩ = c0[i]?) ∧ (∀ i, W.frozen? ⟨b0, i, none⟩ = false) ∧ b0 < W.heap.size) ∧
    ((∀ i, W.cell? ⟨b1, i, none⟩ = c1[i]?) ∧ (∀ i, W.frozen? ⟨b1, i, none⟩ = false) ∧ b1 < W.heap.size) ∧
    ((∀ i, W.cell? ⟨b2, i, none⟩ = c2[i]?) ∧ (∀ i, W.frozen? ⟨b2, i, none⟩ = false) ∧ b2 < W.heap.size) ∧
    ((∀ i, W.cell? ⟨b3, i, none⟩ = c3[i]?) ∧ (∀ i, W.frozen? ⟨b3, i, none⟩ = false) ∧ b3 < W.heap.size) ∧
    ((∀ i, W.cell? ⟨b4, i, none⟩ = c4[i]?) ∧ (∀ i, W.frozen? ⟨b4, i, none⟩ = false) ∧ b4 < W.heap.size) ∧
    ((∀ i, W.cell? ⟨b5, i, none⟩ = c5[i]?) ∧ (∀ i, W.frozen? ⟨b5, i, none⟩ = false) ∧ b5 < W.heap.size) := ⟨h.r1, h.tail.r5⟩
theorem Own.r7 {w W : World} {b0 b1 b2 b3 b4 b5 b6 : Nat} {t0 t1 t2 t3 t4 t5 t6 : TypeId} {c0 c1 c2 c3 c4 c5 c6 : Array Value} {L} (h : Own w W ((b0, t0, c0) :: (b1, t1, c1) :: (b2, t2, c2) :: (b3, t3, c3) :: (b4, t4, c4) :: (b5, t5, c5) :: (b6, t6, c6) :: L)) :
    ((∀ i, W.cell? ⟨b0, i, none⟩ = c0[i]?) ∧ (∀ i, W.frozen? ⟨b0, i, none⟩ = false) ∧ b0 < W.heap.size) ∧
    ((∀ i, W.cell? ⟨b1, i, none⟩ = c1[i]?) ∧ (∀ i, W.frozen? ⟨b1, i, none⟩ = false) ∧ b1 < W.heap.size) ∧
    ((∀ i, W.cell? ⟨b2, i, none⟩ = c2[i]?) ∧ (∀ i, W.frozen? ⟨b2, i, none⟩ = false) ∧ b2 < W.heap.size) ∧
    ((∀ i, W.cell? ⟨b3, i, none⟩ = c3[i]?) ∧ (∀ i, W.frozen? ⟨b3, i, none⟩ = false) ∧ b3 < W.heap.size) ∧
    ((∀ i, W.cell? ⟨b4, i, none⟩ = c4[i]?) ∧ (∀ i, W.frozen? ⟨b4, i, none⟩ = false) ∧ b4 < W.heap.size) ∧
    ((∀ i, W.cell? ⟨b5, i, none⟩ = c5[i]?) ∧ (∀ i, W.frozen? ⟨b5, i, none⟩ = false) ∧ b5 < W.heap.size) ∧
    ((∀ i, W.cell? ⟨b6, i, none⟩ = c6[i]?) ∧ (∀ i, W.frozen? ⟨b6, i, none⟩ = false) ∧ b6 < W.heap.size) := ⟨h.r1, h.tail.r6⟩
theorem Own.r8 {w W : World} {b0 b1 b2 b3 b4 b5 b6 b7 : Nat} {t0 t1 t2 t3 t4 t5 t6 t7 : TypeId} {c0 c1 c2 c3 c4 c5 c6 c7 : Array Value} {L} (h : Own w W ((b0, t0, c0) :: (b1, t1, c1) :: (b2, t2, c2) :: (b3, t3, c3) :: (b4, t4, c4) :: (b5, t5, c5) :: (b6, t6, c6) :: (b7, t7, c7) :: L)) :
    ((∀ i, W.cell? ⟨b0, i, none⟩ = c0[i]?) ∧ (∀ i, W.frozen? ⟨b0, i, none⟩ = false) ∧ b0 < W.heap.size) ∧
    ((∀ i, W.cell? ⟨b1, i, none⟩ = c1[i]?) ∧ (∀ i, W.frozen? ⟨b1, i, none⟩ = false) ∧ b1 < W.heap.size) ∧
    ((∀ i, W.cell? ⟨b2, i, none⟩ = c2[i]?) ∧ (∀ i, W.frozen? ⟨b2, i, none⟩ = false) ∧ b2 < W.heap.size) ∧
    ((∀ i, W.cell? ⟨b3, i, none⟩ = c3[i]?) ∧ (∀ i, W.frozen? ⟨b3, i, none⟩ = false) ∧ b3 < W.heap.size) ∧
    ((∀ i, W.cell? ⟨b4, i, none⟩ = c4[i]?) ∧ (∀ i, W.frozen? ⟨b4, i, none⟩ = false) ∧ b4 < W.heap.size) ∧
    ((∀ i, W.cell? ⟨b5, i, none⟩ = c5[i]?) ∧ (∀ i, W.frozen? ⟨b5, i, none⟩ = false) ∧ b5 < W.heap.size) ∧
    ((∀ i, W.cell? ⟨b6, i, none⟩ = c6[i]?) ∧ (∀ i, W.frozen? ⟨b6, i, none⟩ = false) ∧ b6 < W.heap.size) ∧
    ((∀ i, W.cell? ⟨b7, i, none⟩ = c7[i]?) ∧ (∀ i, W.frozen? ⟨b7, i, none⟩ = false) ∧ b7 < W.heap.size) := ⟨h.r1, h.tail.r7⟩
theorem Own.r9 {w W : World} {b0 b1 b2 b3 b4 b5 b6 b7 b8 : Nat} {t0 t1 t2 t3 t4 t5 t6 t7 t8 : TypeId} {c0 c1 c2 c3 c4 c5 c6 c7 c8 : Array Value} {L} (h : Own w W ((b0, t0, c0) :: (b1, t1, c1) :: (b2, t2, c2) :: (b3, t3, c3) :: (b4, t4, c4) :: (b5, t5, c5) :: (b6, t6, c6) :: (b7, t7, c7) :: (b8, t8, c8) :: L)) :
    ((∀ i, W.cell? ⟨b0, i, none⟩ = c0[i]?) ∧ (∀ i, W.frozen? ⟨b0, i, none⟩ = false) ∧ b0 < W.heap.size) ∧
    ((∀ i, W.cell? ⟨b1, i, none⟩ = c1[i]?) ∧ (∀ i, W.frozen? ⟨b1, i, none⟩ = false) ∧ b1 < W.heap.size) ∧
    ((∀ i, W.cell? ⟨b2, i, none⟩ = c2[i]?) ∧ (∀ i, W.frozen? ⟨b2, i, none⟩ = false) ∧ b2 < W.heap.size) ∧
    ((∀ i, W.cell? ⟨b3, i, none⟩ = c3[i]?) ∧ (∀ i, W.frozen? ⟨b3, i, none⟩ = false) ∧ b3 < W.heap.size) ∧
    ((∀ i, W.cell? ⟨b4, i, none⟩ = c4[i]?) ∧ (∀ i, W.frozen? ⟨b4, i, none⟩ = false) ∧ b4 < W.heap.size) ∧
    ((∀ i, W.cell? ⟨b5, i, none⟩ = c5[i]?) ∧ (∀ i, W.frozen? ⟨b5, i, none⟩ = false) ∧ b5 < W.heap.size) ∧
    ((∀ i, W.cell? ⟨b6, i, none⟩ = c6[i]?) ∧ (∀ i, W.frozen? ⟨b6, i, none⟩ = false) ∧ b6 < W.heap.size) ∧
    ((∀ i, W.cell? ⟨b7, i, none⟩ = c7[i]?) ∧ (∀ i, W.frozen? ⟨b7, i, none⟩ = false) ∧ b7 < W.heap.size) ∧
    ((∀ i, W.cell? ⟨b8, i, none⟩ = c8[i]?) ∧ (∀ i, W.frozen? ⟨b8, i, none⟩ = false) ∧ b8 < W.heap.size) := ⟨h.r1, h.tail.r8⟩
theorem Own.r10 {w W : World} {b0 b1 b2 b3 b4 b5 b6 b7 b8 b9 : Nat} {t0 t1 t2 t3 t4 t5 t6 t7 t8 t9 : TypeId} {c0 c1 c2 c3 c4 c5 c6 c7 c8 c9 : Array Value} {L} (h : Own w W ((b0, t0, c0) :: (b1, t1, c1) :: (b2, t2, c2) :: (b3, t3, c3) :: (b4, t4, c4) :: (b5, t5, c5) :: (b6, t6, c6) :: (b7, t7, c7) :: (b8, t8, c8) :: (b9, t9, c9) :: L)) :
    ((∀ i, W.cell? ⟨b0, i, none⟩ = c0[i]?) ∧ (∀ i, W.frozen? ⟨b0, i, none⟩ = false) ∧ b0 < W.heap.size) ∧
    ((∀ i, W.cell? ⟨b1, i, none⟩ = c1[i]?) ∧ (∀ i, W.frozen? ⟨b1, i, none⟩ = false) ∧ b1 < W.heap.size) ∧
    ((∀ i, W.cell? ⟨b2, i, none⟩ = c2[i]?) ∧ (∀ i, W.frozen? ⟨b2, i, none⟩ = false) ∧ b2 < W.heap.size) ∧
    ((∀ i, W.cell? ⟨b3, i, none⟩ = c3[i]?) ∧ (∀ i, W.frozen? ⟨b3, i, none⟩ = false) ∧ b3 < W.heap.size) ∧
    ((∀ i, W.cell? ⟨b4, i, none⟩ = c4[i]?) ∧ (∀ i, W.frozen? ⟨b4, i, none⟩ = false) ∧ b4 < W.heap.size) ∧
    ((∀ i, W.cell? ⟨b5, i, none⟩ = c5[i]?) ∧ (∀ i, W.frozen? ⟨b5, i, none⟩ = false) ∧ b5 < W.heap.size) ∧
    ((∀ i, W.cell? ⟨b6, i, none⟩ = c6[i]?) ∧ (∀ i, W.frozen? ⟨b6, i, none⟩ = false) ∧ b6 < W.heap.size) ∧
    ((∀ i, W.cell? ⟨b7, i, none⟩ = c7[i]?) ∧ (∀ i, W.frozen? ⟨b7, i, none⟩ = false) ∧ b7 < W.heap.size) ∧
    ((∀ i, W.cell? ⟨b8, i, none⟩ = c8[i]?) ∧ (∀ i, W.frozen? ⟨b8, i, none⟩ = false) ∧ b8 < W.heap.size) ∧
    ((∀ i, W.cell? ⟨b9, i, none⟩ = c9[i]?) ∧ (∀ i, W.frozen? ⟨b9, i, none⟩ = false) ∧ b9 < W.heap.size) := ⟨h.r1, h.tail.r9⟩
end Go.Proofs.YtbmocghfpcfmhaaDoor

namespace Go.Proofs.YtbmocghfpcfmhaaDoor
open Go Go.RowKit

theorem cell_set2 {W : World} {b h : Nat} (hn : ¬ h = b) (u v : Value) (i : Nat) : ((W.setCell ⟨b, 0, none⟩ u).setCell ⟨b, 1, none⟩ v).drew.cell? ⟨h, i, none⟩ = W.cell? ⟨h, i, none⟩ :=
  World.cell?_of_block ((Below.heap_setCell (W.setCell ⟨b, 0, none⟩ u) ⟨b, 1, none⟩ v h hn).trans (Below.heap_setCell W ⟨b, 0, none⟩ u h hn))
def RetW (v : Value) (w : World) (e : Ending) (w' : World) : Prop := e = .returned v ∧ Below w.heap.size w w'
set_option maxHeartbeats 1000000 in
theorem mssmall_any (m : Msh) (a : MshA) (w : World) : Calls Tryd.prog 44 #[m.val a] w (RetW (.bool (smB m)) w) := by
  have X := (Own.start w).alloc (m.cells a) 41
  have hr := X.r1
  have E : Hid (smB m = (decide (m.ss.length ≤ 2000) && decide (m.fs.length ≤ 4000))) := hide rfl
  by_cases h1 : m.ss.length ≤ 2000 <;> by_cases h2 : m.fs.length ≤ 4000
  all_goals
    go_enter Tryd.func44, Tryd.ntmps44
    go_wp2
    go_ret
    exact ⟨ret_bool (by rw [E.out]; simp [h1, h2]; try omega), X.1⟩
set_option maxHeartbeats 1000000 in
theorem plvalid_any (p : Pnt) (w : World) : Calls Tryd.prog 16 #[p.val] w (RetW (.bool (inP p)) w) := by
  have X := (Own.start w).alloc #[.int .i64 p.x, .int .i64 p.y] 44
  have hr := X.r1
  have E : Hid (inP p = (decide (-16777216 ≤ p.x) && decide (p.x ≤ 16777216) && decide (-16777216 ≤ p.y) && decide (p.y ≤ 16777216))) := hide rfl
  have ways : decide (-16777216 ≤ p.x) = false ∨ (decide (-16777216 ≤ p.x) = true ∧ decide (p.x ≤ 16777216) = false) ∨ (decide (-16777216 ≤ p.x) = true ∧ decide (p.x ≤ 16777216) = true ∧ decide (-16777216 ≤ p.y) = false) ∨
      (decide (-16777216 ≤ p.x) = true ∧ decide (p.x ≤ 16777216) = true ∧ decide (-16777216 ≤ p.y) = true) := by
    cases decide (-16777216 ≤ p.x) <;> cases decide (p.x ≤ 16777216) <;> cases decide (-16777216 ≤ p.y) <;> simp
  rcases ways with q1 | ⟨q1, q2⟩ | ⟨q1, q2, q3⟩ | ⟨q1, q2, q3⟩
  all_goals
    go_enter Tryd.func16, Tryd.ntmps16
    go_wp2
    go_ret
    exact ⟨ret_bool (by rw [E.out]; simp [*]), X.1⟩
set_option maxHeartbeats 1000000 in
theorem msright_any (s : Spt) (w : World) : Calls Tryd.prog 45 #[s.val] w (RetW (.bool (okS s)) w) := by
  have X := (Own.start w).alloc #[.int .i64 s.x, .int .i64 s.y, .int .i64 s.z] 35
  have hr := X.r1
  have PV := hide (fun W => plvalid_any ⟨s.x, s.y⟩ W)
  have E : Hid (okS s = (inP ⟨s.x, s.y⟩ && decide (-4194304 ≤ s.z) && decide (s.z ≤ 4194304))) := hide rfl
  generalize inP ⟨s.x, s.y⟩ = b at *
  have ways : b = false ∨ (b = true ∧ decide (-4194304 ≤ s.z) = false) ∨ (b = true ∧ decide (-4194304 ≤ s.z) = true) := by
    cases b <;> cases decide (-4194304 ≤ s.z) <;> simp
  rcases ways with rfl | ⟨rfl, q2⟩ | ⟨rfl, q2⟩
  all_goals
    go_enter Tryd.func45, Tryd.ntmps45
    go_wp2_with fail
    refine (PV.out _).mono ?_
    rintro e w1 ⟨rfl, hb⟩
    replace X := X.to hb
    clear hr hb
    have hr := X.r1
    go_wp2
    go_ret
    exact ⟨ret_bool (by rw [E.out]; simp [*]), X.1⟩
set_option maxRecDepth 100000 in
set_option maxHeartbeats 2000000 in
theorem mspoint_any (m : Msh) (a : MshA) (i : Int) (w : World) (hm : MshSl w m a) (h0 : 0 ≤ i) (h1 : i < m.ss.length) : Calls Tryd.prog 46 #[m.val a, .int .i64 i] w (RetW (spA m.ss i).pt.val w) := by
  obtain ⟨k, rfl⟩ : ∃ k : Nat, i = (k : Int) := ⟨i.toNat, by omega⟩
  have hk : k < m.ss.length := by omega
  obtain ⟨A1, c1, A2, c2⟩ := a
  have hlen : m.ss.length ≤ 9223372036854775807 := hm.1.1.1
  obtain ⟨b, off, e, hbl, hat⟩ := hm.1.2 (by omega)
  have e' : A1 = some ⟨b, off, none⟩ := e
  subst e'
  obtain ⟨c0, d0, _⟩ := hat k hk
  have eS : spA m.ss (k : Int) = m.ss[k] := by simp [spA, hk]
  rw [eS]
  have X := ((Own.start w).alloc #[.slice (some ⟨b, off, none⟩) m.ss.length c1, .slice A2 m.fs.length c2] 41).alloc #[.int .i64 0, .int .i64 0] 44
  rw [World.size_alloc] at X
  have hr := X.r2
  have XB := hide X.1
  have g0 : (0 : Int) ≤ (k : Int) := by omega
  have g1 : (k : Int) < (m.ss.length : Int) := by omega
  have n1 : ¬ (w.heap.size = w.heap.size + 1) := by omega
  have n2 : ¬ (b = w.heap.size + 1) := by omega
  have n3 : ¬ (b = w.heap.size) := by omega
  clear hat X hm eS
  generalize m.ss[k] = s at *
  show Calls _ _ _ _ (RetW (.agg #[.int .i64 s.x, .int .i64 s.y]) w)
  go_enter Tryd.func46, Tryd.ntmps46
  go_wp2
  go_region_held3 (fun w' => w'.cell? ⟨w.heap.size, 0, none⟩ = some (.slice (some ⟨b, off, none⟩) m.ss.length c1) ∧ w'.cell? ⟨b, off + k * 3, none⟩ = some (.int .i64 s.x) ∧ w'.cell? ⟨b, off + k * 3 + 1, none⟩ = some (.int .i64 s.y)) (go_keep) (fail)
  go_wp2
  exact bodyPost_ret (v := .agg #[.int .i64 s.x, .int .i64 s.y]) (by simp [results, Tryd.results46, go_sem]) rfl ⟨rfl, by have HX := XB.out; have hz := HX.size; go_grown⟩
set_option maxHeartbeats 1000000 in
theorem mscorners_any (f : Fce) (w : World) : Calls Tryd.prog 47 #[f.val] w (RetW (.agg #[.int .i64 f.a, .int .i64 f.b, .int .i64 f.c]) w) := by
  have X := ((Own.start w).alloc #[.int .i64 f.a, .int .i64 f.b, .int .i64 f.c, .int .i64 f.k] 38).alloc #[.int .i64 0, .int .i64 0, .int .i64 0] 99
  rw [World.size_alloc] at X
  have hr := X.r2
  have XB := hide X.1
  go_enter Tryd.func47, Tryd.ntmps47
  go_wp2
  exact bodyPost_ret (v := .agg #[.int .i64 f.a, .int .i64 f.b, .int .i64 f.c]) (by simp [results, Tryd.results47, go_sem]) rfl ⟨rfl, by have HX := XB.out; have hz := HX.size; go_grown⟩
set_option maxHeartbeats 1000000 in
theorem msturn_any (a b c : Pnt) (w : World) (ha : a.in) (hb : b.in) (hc : c.in) : Calls Tryd.prog 51 #[a.val, b.val, c.val] w (RetW (.int .i64 (trn a b c)) w) := by
  have X := (((Own.start w).alloc #[.int .i64 a.x, .int .i64 a.y] 44).alloc #[.int .i64 b.x, .int .i64 b.y] 44).alloc #[.int .i64 c.x, .int .i64 c.y] 44
  simp only [World.size_alloc] at X
  have hr := X.r3
  have XB := hide X.1
  obtain ⟨m1, m2⟩ := trn_bd ha hb hc
  obtain ⟨⟨a1, a2⟩, a3, a4⟩ := ha
  obtain ⟨⟨b1, b2⟩, b3, b4⟩ := hb
  obtain ⟨⟨c1, c2⟩, c3, c4⟩ := hc
  have E : Hid (trn a b c = (b.x - a.x) * (c.y - a.y) - (b.y - a.y) * (c.x - a.x)) := hide rfl
  generalize trn a b c = t at *
  have e1 := IntWalk.i64_in (b.x - a.x) (by omega)
  have e2 := IntWalk.i64_in (c.y - a.y) (by omega)
  have e3 := IntWalk.i64_in (b.y - a.y) (by omega)
  have e4 := IntWalk.i64_in (c.x - a.x) (by omega)
  obtain ⟨p, hp⟩ : ∃ p, p = (b.x - a.x) * (c.y - a.y) := ⟨_, rfl⟩
  obtain ⟨q, hq⟩ : ∃ q, q = (b.y - a.y) * (c.x - a.x) := ⟨_, rfl⟩
  rw [← hp, ← hq] at E
  rw [← hp] at m1
  rw [← hq] at m2
  have w1 : IntKind.i64.wrap ((b.x - a.x) * (c.y - a.y)) = p := by rw [← hp]; exact IntWalk.i64_in _ (by omega)
  have w2 : IntKind.i64.wrap ((b.y - a.y) * (c.x - a.x)) = q := by rw [← hq]; exact IntWalk.i64_in _ (by omega)
  have w3 := IntWalk.i64_in (p - q) (by omega)
  clear hp hq X
  go_enter Tryd.func51, Tryd.ntmps51
  go_wp2
  go_ret
  exact ⟨by rw [E.out]; rfl, XB.out⟩
set_option maxRecDepth 100000 in
set_option maxHeartbeats 2000000 in
/-- a side: its number from 0 to 2 -/
theorem msside_any (f : Fce) (k : Nat) (w : World) (hk : k < 3) : Calls Tryd.prog 52 #[f.val, .int .i64 k] w (RetW (.agg #[.int .i64 (sdA f k).1, .int .i64 (sdA f k).2]) w) := by
  have X := ((Own.start w).alloc #[.int .i64 f.a, .int .i64 f.b, .int .i64 f.c, .int .i64 f.k] 38).alloc #[.int .i64 0, .int .i64 0] 106
  rw [World.size_alloc] at X
  have hr := X.r2
  have CN := hide (fun W => mscorners_any f W)
  obtain rfl | rfl | rfl : k = 0 ∨ k = 1 ∨ k = 2 := by omega
  · clear hk
    show Calls _ _ #[f.val, .int .i64 0] w (RetW (.agg #[.int .i64 f.a, .int .i64 f.b]) w)
    go_enter Tryd.func52, Tryd.ntmps52
    go_wp2_with fail
    refine (CN.out _).mono ?_
    rintro e w1 ⟨rfl, hb⟩
    have n0 : w.heap.size + 1 < w1.heap.size := by have hz := hb.size; simp at hz; omega
    replace X := (X.to hb).alloc #[.int .i64 f.a, .int .i64 f.b, .int .i64 f.c] 99
    clear hr hb
    have XB := hide X.1
    have n1 : ¬ (w1.heap.size = w.heap.size + 1) := by omega
    have s1 : IntKind.i64.wrap 1 = 1 := by decide
    have s2 : (1 : Int).tmod 3 = 1 := by decide
    go_wp2
    generalize w1.alloc (.cells #[.int .i64 f.a, .int .i64 f.b, .int .i64 f.c] 99) = W at *
    have hr := X.r3
    have KP : ∀ u v : Value, ((W.setCell ⟨w.heap.size + 1, 0, none⟩ u).setCell ⟨w.heap.size + 1, 1, none⟩ v).drew.cell? ⟨w1.heap.size, 0, none⟩ = some (.int .i64 f.a) ∧ ((W.setCell ⟨w.heap.size + 1, 0, none⟩ u).setCell ⟨w.heap.size + 1, 1, none⟩ v).drew.cell? ⟨w1.heap.size, 1, none⟩ = some (.int .i64 f.b) ∧
        ((W.setCell ⟨w.heap.size + 1, 0, none⟩ u).setCell ⟨w.heap.size + 1, 1, none⟩ v).drew.cell? ⟨w1.heap.size, 2, none⟩ = some (.int .i64 f.c) := fun u v => ⟨(cell_set2 n1 _ _ _).trans (hr.1.1 0), (cell_set2 n1 _ _ _).trans (hr.1.1 1), (cell_set2 n1 _ _ _).trans (hr.1.1 2)⟩
    clear X
    go_region_held3 (fun w' => w'.cell? ⟨w1.heap.size, 0, none⟩ = some (.int .i64 f.a) ∧ w'.cell? ⟨w1.heap.size, 1, none⟩ = some (.int .i64 f.b) ∧ w'.cell? ⟨w1.heap.size, 2, none⟩ = some (.int .i64 f.c)) (first | go_keep | exact KP _ _) (fail)
    go_wp2
    exact bodyPost_ret (v := .agg #[.int .i64 f.a, .int .i64 f.b]) (by simp [results, Tryd.results52, hr, go_sem]) rfl ⟨rfl, by have HX := XB.out; have hz := HX.size; go_grown⟩
  · clear hk
    show Calls _ _ #[f.val, .int .i64 1] w (RetW (.agg #[.int .i64 f.b, .int .i64 f.c]) w)
    go_enter Tryd.func52, Tryd.ntmps52
    go_wp2_with fail
    refine (CN.out _).mono ?_
    rintro e w1 ⟨rfl, hb⟩
    have n0 : w.heap.size + 1 < w1.heap.size := by have hz := hb.size; simp at hz; omega
    replace X := (X.to hb).alloc #[.int .i64 f.a, .int .i64 f.b, .int .i64 f.c] 99
    clear hr hb
    have XB := hide X.1
    have n1 : ¬ (w1.heap.size = w.heap.size + 1) := by omega
    have s1 : IntKind.i64.wrap 2 = 2 := by decide
    have s2 : (2 : Int).tmod 3 = 2 := by decide
    go_wp2
    generalize w1.alloc (.cells #[.int .i64 f.a, .int .i64 f.b, .int .i64 f.c] 99) = W at *
    have hr := X.r3
    have KP : ∀ u v : Value, ((W.setCell ⟨w.heap.size + 1, 0, none⟩ u).setCell ⟨w.heap.size + 1, 1, none⟩ v).drew.cell? ⟨w1.heap.size, 0, none⟩ = some (.int .i64 f.a) ∧ ((W.setCell ⟨w.heap.size + 1, 0, none⟩ u).setCell ⟨w.heap.size + 1, 1, none⟩ v).drew.cell? ⟨w1.heap.size, 1, none⟩ = some (.int .i64 f.b) ∧
        ((W.setCell ⟨w.heap.size + 1, 0, none⟩ u).setCell ⟨w.heap.size + 1, 1, none⟩ v).drew.cell? ⟨w1.heap.size, 2, none⟩ = some (.int .i64 f.c) := fun u v => ⟨(cell_set2 n1 _ _ _).trans (hr.1.1 0), (cell_set2 n1 _ _ _).trans (hr.1.1 1), (cell_set2 n1 _ _ _).trans (hr.1.1 2)⟩
    clear X
    go_region_held3 (fun w' => w'.cell? ⟨w1.heap.size, 0, none⟩ = some (.int .i64 f.a) ∧ w'.cell? ⟨w1.heap.size, 1, none⟩ = some (.int .i64 f.b) ∧ w'.cell? ⟨w1.heap.size, 2, none⟩ = some (.int .i64 f.c)) (first | go_keep | exact KP _ _) (fail)
    go_wp2
    exact bodyPost_ret (v := .agg #[.int .i64 f.b, .int .i64 f.c]) (by simp [results, Tryd.results52, hr, go_sem]) rfl ⟨rfl, by have HX := XB.out; have hz := HX.size; go_grown⟩
  · clear hk
    show Calls _ _ #[f.val, .int .i64 2] w (RetW (.agg #[.int .i64 f.c, .int .i64 f.a]) w)
    go_enter Tryd.func52, Tryd.ntmps52
    go_wp2_with fail
    refine (CN.out _).mono ?_
    rintro e w1 ⟨rfl, hb⟩
    have n0 : w.heap.size + 1 < w1.heap.size := by have hz := hb.size; simp at hz; omega
    replace X := (X.to hb).alloc #[.int .i64 f.a, .int .i64 f.b, .int .i64 f.c] 99
    clear hr hb
    have XB := hide X.1
    have n1 : ¬ (w1.heap.size = w.heap.size + 1) := by omega
    have s1 : IntKind.i64.wrap 3 = 3 := by decide
    have s2 : (3 : Int).tmod 3 = 0 := by decide
    go_wp2
    generalize w1.alloc (.cells #[.int .i64 f.a, .int .i64 f.b, .int .i64 f.c] 99) = W at *
    have hr := X.r3
    have KP : ∀ u v : Value, ((W.setCell ⟨w.heap.size + 1, 0, none⟩ u).setCell ⟨w.heap.size + 1, 1, none⟩ v).drew.cell? ⟨w1.heap.size, 0, none⟩ = some (.int .i64 f.a) ∧ ((W.setCell ⟨w.heap.size + 1, 0, none⟩ u).setCell ⟨w.heap.size + 1, 1, none⟩ v).drew.cell? ⟨w1.heap.size, 1, none⟩ = some (.int .i64 f.b) ∧
        ((W.setCell ⟨w.heap.size + 1, 0, none⟩ u).setCell ⟨w.heap.size + 1, 1, none⟩ v).drew.cell? ⟨w1.heap.size, 2, none⟩ = some (.int .i64 f.c) := fun u v => ⟨(cell_set2 n1 _ _ _).trans (hr.1.1 0), (cell_set2 n1 _ _ _).trans (hr.1.1 1), (cell_set2 n1 _ _ _).trans (hr.1.1 2)⟩
    clear X
    go_region_held3 (fun w' => w'.cell? ⟨w1.heap.size, 0, none⟩ = some (.int .i64 f.a) ∧ w'.cell? ⟨w1.heap.size, 1, none⟩ = some (.int .i64 f.b) ∧ w'.cell? ⟨w1.heap.size, 2, none⟩ = some (.int .i64 f.c)) (first | go_keep | exact KP _ _) (fail)
    go_wp2
    exact bodyPost_ret (v := .agg #[.int .i64 f.c, .int .i64 f.a]) (by simp [results, Tryd.results52, hr, go_sem]) rfl ⟨rfl, by have HX := XB.out; have hz := HX.size; go_grown⟩
end Go.Proofs.YtbmocghfpcfmhaaDoor

namespace Go.Proofs.YtbmocghfpcfmhaaDoor
open Go Go.RowKit

def bcR : Go.Shelf.Ren := ⟨fun | 25 => 42 | 26 => 43 | n => n, fun | 22 => 62 | n => n, fun | n => n⟩
theorem bcA : Go.Proofs.Lays7.n25 Tryd.prog bcR := {
  mixed := by kernel_rfl
  f25 := Tryd.func42.trans (congrArg some (by kernel_rfl))
  t22 := Tryd.underlying62
  a22 := Tryd.isAgg62
  z22 := Tryd.sizeOf62
  v22 := Tryd.zeroValue62
  i22 := by kernel_rfl }
theorem bcS : Go.Proofs.Lays7.n26 Tryd.prog bcR := {
  mixed := by kernel_rfl
  f26 := Tryd.func43.trans (congrArg some (by kernel_rfl))
  t22 := Tryd.underlying62
  a22 := Tryd.isAgg62
  z22 := Tryd.sizeOf62
  v22 := Tryd.zeroValue62
  i22 := by kernel_rfl }
theorem add64C (x y s c : Nat) (hs : s = (x + y) % 18446744073709551616) (hc : c = (x + y) / 18446744073709551616) (w : World) :
    (callFunc 42 #[.int .u64 (x : Int), .int .u64 (y : Int), .int .u64 0]).run Tryd.prog w = .ok (.value (.tuple #[.int .u64 (s : Int), .int .u64 (c : Int)])) w := by
  subst hs hc
  exact Any7.bits_Add64 bcA x y 0 (by omega) w
theorem sub64C (x y s c : Nat) (hs : s = (x + 18446744073709551616 - y) % 18446744073709551616) (hc : c = if x < y then 1 else 0) (w : World) :
    (callFunc 43 #[.int .u64 (x : Int), .int .u64 (y : Int), .int .u64 0]).run Tryd.prog w = .ok (.value (.tuple #[.int .u64 (s : Int), .int .u64 (c : Int)])) w := by
  subst hs hc
  exact Any7.bits_Sub64 bcS x y 0 (by omega) w
end Go.Proofs.YtbmocghfpcfmhaaDoor

namespace Go.Proofs.YtbmocghfpcfmhaaDoor
open Go Go.RowKit

set_option maxHeartbeats 2000000 in
theorem wsplaced_any (v : Int) (w : World) (h : wideB v) : Calls Tryd.prog 24 #[WN v] w (RetW (.tuple #[WV v, .int .i64 0]) w) := by
  rcases Int.lt_or_le (-1) v with hv | hv
  · obtain ⟨n, rfl⟩ : ∃ n : Nat, v = (n : Int) := ⟨v.toNat, by omega⟩
    rw [WN_nat, WV_nat]
    exact wdplaced_any n w (by have := h.2; omega)
  obtain ⟨m, rfl⟩ : ∃ m : Nat, v = -(m : Int) := ⟨(-v).toNat, by omega⟩
  have hm0 : 0 < m := by omega
  have hm1 : m ≤ 1267650600228229401496703205376 := by have := h.1; omega
  obtain ⟨hi, hhi⟩ : ∃ hi, hi = m / 18446744073709551616 := ⟨_, rfl⟩
  obtain ⟨lo, hlo⟩ : ∃ lo, lo = m % 18446744073709551616 := ⟨_, rfl⟩
  obtain ⟨a, ha⟩ : ∃ a, a = m / 1152921504606846976 := ⟨_, rfl⟩
  obtain ⟨b, hb⟩ : ∃ b, b = m % 1152921504606846976 := ⟨_, rfl⟩
  have d1 : hi < 72057594037927936 := by omega
  have E1 : IntKind.u64.wrap ((hi : Int) * 16) = ((hi * 16 : Nat) : Int) := by rw [IntKind.wrap_u64]; omega
  have E2 : (lo : Int) / 1152921504606846976 = ((lo / 1152921504606846976 : Nat) : Int) := by omega
  have E3 : bits .or .u64 ((hi * 16 : Nat) : Int) ((lo / 1152921504606846976 : Nat) : Int) = (a : Int) := by
    have e : hi * 16 ||| lo / 1152921504606846976 = a := by
      rw [show hi * 16 = 2 ^ 4 * hi by omega, Nat.two_pow_add_eq_or_of_lt (by omega : lo / 1152921504606846976 < 2 ^ 4) hi |>.symm]
      omega
    exact u64_or_nat e (by omega) (by omega)
  have E4 : IntKind.i64.wrap (a : Int) = (a : Int) := IntWalk.i64_in _ (by omega)
  have E5 : bits .and .u64 (lo : Int) 1152921504606846975 = (b : Int) := by
    have e : lo &&& 1152921504606846975 = lo % 1152921504606846976 := Nat.and_two_pow_sub_one_eq_mod lo 60
    have := bits_and_u64_nat lo 1152921504606846975 (by omega) (by omega)
    rw [e] at this
    have e2 : lo % 1152921504606846976 = b := by omega
    rw [e2] at this
    exact this
  have E6 : IntKind.i64.wrap (b : Int) = (b : Int) := IntWalk.i64_in _ (by omega)
  have E7 : IntKind.i64.wrap (-(a : Int)) = -(a : Int) := IntWalk.i64_in _ (by omega)
  have E8 : IntKind.i64.wrap (-(a : Int) - 1) = -(a : Int) - 1 := IntWalk.i64_in _ (by omega)
  have E9 : IntKind.i64.wrap (1152921504606846976 - (b : Int)) = 1152921504606846976 - (b : Int) := IntWalk.i64_in _ (by omega)
  have g1 : ¬ ((hi : Int) > 72057594037927936) := by omega
  have g2 : ((hi : Int) == 72057594037927936) = false := beq_eq_false_iff_ne.2 (by omega)
  have X := ((Own.start w).alloc #[.int .u64 (hi : Int), .int .u64 (lo : Int), .bool true] 64).alloc #[.int .i64 0, .int .i64 0] 50
  rw [WN_neg hm0, ← hhi, ← hlo]
  rcases Nat.eq_zero_or_pos b with hb0 | hb0
  · rw [WV_neg0 (by omega), ← ha]
    have g3 : ((b : Int) == 0) = true := beq_iff_eq.2 (by omega)
    generalize ((hi * 16 : Nat) : Int) = z1 at *
    generalize ((lo / 1152921504606846976 : Nat) : Int) = z2 at *
    clear hhi hlo ha hb h hm0 hm1 hv hb0 E8 E9
    go_enter Tryd.func24, Tryd.ntmps24
    go_wp2
    go_quiet (fail)
    go_wp2
    have Y := (X.drewN' nq).1
    refine bodyPost_ret (v := .tuple #[.agg #[.int .i64 (-(a : Int)), .int .i64 0], .int .i64 0]) (by simp [results, Tryd.results24, go_sem]) rfl ⟨rfl, ?_⟩
    first
    | exact below_set (below_set Y (by omega) _) (by omega) _
    | exact below_set Y (by omega) _
  · rw [WV_neg1 (by omega), ← ha, ← hb]
    have g3 : ((b : Int) == 0) = false := beq_eq_false_iff_ne.2 (by omega)
    generalize ((hi * 16 : Nat) : Int) = z1 at *
    generalize ((lo / 1152921504606846976 : Nat) : Int) = z2 at *
    clear hhi hlo ha hb h hm0 hm1 hv hb0
    go_enter Tryd.func24, Tryd.ntmps24
    go_wp2
    go_quiet (fail)
    go_wp2
    have Y := (X.drewN' nq).1
    refine bodyPost_ret (v := .tuple #[.agg #[.int .i64 (-(a : Int) - 1), .int .i64 (1152921504606846976 - (b : Int))], .int .i64 0]) (by simp [results, Tryd.results24, go_sem]) rfl ⟨rfl, ?_⟩
    exact below_set (below_set Y (by omega) _) (by omega) _
set_option maxRecDepth 100000 in
set_option maxHeartbeats 1000000 in
theorem wsvalid_any (v : Int) (w : World) (h : wideB v) : Calls Tryd.prog 27 #[WV v] w (RetW (.bool true) w) := by
  have b1 : (-1152921504606846976 : Int) ≤ v / 1152921504606846976 := by have := h.1; omega
  have b2 : v / 1152921504606846976 < (1152921504606846976 : Int) := by have := h.2; omega
  have b3 : (0 : Int) ≤ v % 1152921504606846976 := by omega
  have b4 : v % 1152921504606846976 < (1152921504606846976 : Int) := by omega
  unfold WV
  generalize v / 1152921504606846976 = a at *
  generalize v % 1152921504606846976 = b at *
  clear h
  go_enter Tryd.func27, Tryd.ntmps27
  go_wp2
  go_ret
  exact ⟨ret_bool rfl, by go_grown⟩
set_option maxHeartbeats 2000000 in
theorem wsvalue_any (v : Int) (w : World) (h : wideB v) : Calls Tryd.prog 29 #[WV v] w (RetW (WN v) w) := by
  rcases Int.lt_or_le (-1) v with hv | hv
  · obtain ⟨n, rfl⟩ : ∃ n : Nat, v = (n : Int) := ⟨v.toNat, by omega⟩
    rw [WN_nat, WV_nat]
    exact wdvalue_any n w (by have := h.2; omega)
  obtain ⟨m, rfl⟩ : ∃ m : Nat, v = -(m : Int) := ⟨(-v).toNat, by omega⟩
  have hm0 : 0 < m := by omega
  have hm1 : m ≤ 1267650600228229401496703205376 := by have := h.1; omega
  -- the upper part is -H, the lower one L
  obtain ⟨H, hH⟩ : ∃ H : Nat, -(m : Int) / 1152921504606846976 = -(H : Int) := ⟨((m + 1152921504606846975) / 1152921504606846976), by omega⟩
  obtain ⟨L, hL⟩ : ∃ L : Nat, -(m : Int) % 1152921504606846976 = (L : Int) := ⟨(-(m : Int) % 1152921504606846976).toNat, by omega⟩
  have hHL : m + L = H * 1152921504606846976 := by omega
  have hL1 : L < 1152921504606846976 := by omega
  have hH0 : 0 < H := by omega
  have hH1 : H ≤ 1152921504606846976 := by omega
  obtain ⟨c, hc⟩ : ∃ c, c = H * 1152921504606846976 % 18446744073709551616 := ⟨_, rfl⟩
  obtain ⟨q, hq⟩ : ∃ q, q = H / 16 := ⟨_, rfl⟩
  have E0 : (-(H : Int)).natAbs = H := by omega
  have E1 : (H : Int) / 16 = (q : Int) := by omega
  have E2 : IntKind.u64.wrap ((H : Int) * 1152921504606846976) = (c : Int) := e_mul (y := 1152921504606846976) hc
  have E3 : IntKind.u64.wrap (L : Int) = (L : Int) := u64_nat (by omega)
  obtain ⟨lo, hlo⟩ : ∃ lo, lo = m % 18446744073709551616 := ⟨_, rfl⟩
  obtain ⟨hi, hhi⟩ : ∃ hi, hi = m / 18446744073709551616 := ⟨_, rfl⟩
  obtain ⟨bo, hbo⟩ : ∃ bo : Nat, bo = if c < L then 1 else 0 := ⟨_, rfl⟩
  have SB := sub64C c L lo bo (by omega) hbo
  have E5 : IntKind.u64.wrap ((q : Int) - (bo : Int)) = (hi : Int) := by
    rw [IntKind.wrap_u64, hbo]
    split <;> omega
  have g1 : ¬ ((0 : Int) ≤ -(H : Int)) := by omega
  have SZ := hide (fun W => wsize_any (-(H : Int)) W (by omega) (by omega))
  rw [E0] at SZ
  have X := ((Own.start w).alloc #[.int .i64 (-(H : Int)), .int .i64 (L : Int)] 50).alloc #[.int .u64 0, .int .u64 0, .bool false] 64
  rw [WN_neg hm0, ← hlo, ← hhi]
  unfold WV
  rw [hH, hL]
  clear hhi hlo hc hq hHL hH0 hH1 hL1 hH hL E0 hm0 hm1 hv h hbo
  go_enter Tryd.func29, Tryd.ntmps29
  go_wp2_with fail
  refine (SZ.out _).mono ?_
  rintro e w' ⟨rfl, rfl⟩
  go_wp2
  refine bodyPost_ret (v := .agg #[.int .u64 (hi : Int), .int .u64 (lo : Int), .bool true]) (by simp [results, Tryd.results29, go_sem]) rfl ⟨rfl, ?_⟩
  go_grown
end Go.Proofs.YtbmocghfpcfmhaaDoor

namespace Go.Proofs.YtbmocghfpcfmhaaDoor
open Go Go.RowKit

set_option maxHeartbeats 2000000 in
theorem wssum_same (h1 l1 h2 l2 hi lo c : Nat) (p : Bool) (w : World) (hlo : lo = (l1 + l2) % 18446744073709551616) (hc : c = (l1 + l2) / 18446744073709551616) (hhi : hi = h1 + h2 + c) (hb1 : h1 < 4611686018427387904) (hb2 : h2 < 4611686018427387904) (k1 : l1 < 18446744073709551616) (k2 : l2 < 18446744073709551616) :
    Calls Tryd.prog 28 #[.agg #[.int .u64 (h1 : Int), .int .u64 (l1 : Int), .bool p], .agg #[.int .u64 (h2 : Int), .int .u64 (l2 : Int), .bool p]] w (RetW (.agg #[.int .u64 (hi : Int), .int .u64 (lo : Int), .bool (p && ((hi : Int) != 0 || (lo : Int) != 0))]) w) := by
  have X := (((Own.start w).alloc #[.int .u64 (h1 : Int), .int .u64 (l1 : Int), .bool p] 64).alloc #[.int .u64 (h2 : Int), .int .u64 (l2 : Int), .bool p] 64).alloc #[.int .u64 0, .int .u64 0, .bool false] 64
  simp only [World.size_alloc] at X
  have SA := add64C l1 l2 lo c hlo hc
  obtain ⟨g, hg⟩ : ∃ g : Nat, g = h1 + h2 := ⟨_, rfl⟩
  have E1 : IntKind.u64.wrap ((h1 : Int) + (h2 : Int)) = (g : Int) := by rw [IntKind.wrap_u64]; omega
  have E2 : IntKind.u64.wrap ((g : Int) + (c : Int)) = (hi : Int) := by rw [IntKind.wrap_u64]; omega
  have SG := hide (fun W => signed_any (hi : Int) (lo : Int) p W)
  have hr := X.r3
  have n1 : w.heap.size < w.heap.size + 1 + 1 := by omega
  clear hlo hc hhi hb1 hb2 k1 k2 hg
  cases p
  all_goals
    go_enter Tryd.func28, Tryd.ntmps28
    go_wp2_with fail
    refine (SG.out _).mono ?_
    rintro e w1 ⟨rfl, hb⟩
    replace X := X.to hb
    clear hr hb
    have hr := X.r3
    go_wp2
    refine bodyPost_ret (v := .agg #[.int .u64 (hi : Int), .int .u64 (lo : Int), .bool (_ && ((hi : Int) != 0 || (lo : Int) != 0))]) (by simp [results, Tryd.results28, hr, go_sem]) rfl ⟨rfl, ?_⟩
    exact below_set (below_set (below_set X.1 (by omega) _) (by omega) _) (by omega) _
set_option maxHeartbeats 4000000 in
theorem wssum_less (h1 l1 h2 l2 hi lo bo : Nat) (p q : Bool) (w : World) (hpq : p ≠ q) (hl : h1 < h2 ∨ h1 = h2 ∧ l1 < l2) (hlo : lo = (l2 + 18446744073709551616 - l1) % 18446744073709551616) (hbo : bo = if l2 < l1 then 1 else 0) (hhi : hi + h1 + bo = h2) (hb1 : h1 < 4611686018427387904) (hb2 : h2 < 4611686018427387904) :
    Calls Tryd.prog 28 #[.agg #[.int .u64 (h1 : Int), .int .u64 (l1 : Int), .bool p], .agg #[.int .u64 (h2 : Int), .int .u64 (l2 : Int), .bool q]] w (RetW (.agg #[.int .u64 (hi : Int), .int .u64 (lo : Int), .bool (q && ((hi : Int) != 0 || (lo : Int) != 0))]) w) := by
  have X := (((Own.start w).alloc #[.int .u64 (h2 : Int), .int .u64 (l2 : Int), .bool q] 64).alloc #[.int .u64 (h1 : Int), .int .u64 (l1 : Int), .bool p] 64).alloc #[.int .u64 0, .int .u64 0, .bool false] 64
  simp only [World.size_alloc] at X
  have SA := sub64C l2 l1 lo bo hlo hbo
  obtain ⟨g, hg⟩ : ∃ g : Nat, h2 = g + h1 := ⟨h2 - h1, by omega⟩
  have E1 : IntKind.u64.wrap ((h2 : Int) - (h1 : Int)) = (g : Int) := by rw [IntKind.wrap_u64]; omega
  have E2 : IntKind.u64.wrap ((g : Int) - (bo : Int)) = (hi : Int) := by rw [IntKind.wrap_u64]; omega
  have SG := hide (fun W => signed_any (hi : Int) (lo : Int) q W)
  have hr := X.r3
  have n1 : w.heap.size < w.heap.size + 1 + 1 := by omega
  have ways : decide (h1 < h2) = true ∨ decide (h1 < h2) = false ∧ (((h1 : Int) == (h2 : Int)) = true ∧ decide (l1 < l2) = true) := by
    rcases hl with h | ⟨h, h'⟩
    · exact .inl (by simp [h])
    · exact .inr ⟨by simp; omega, by simp [h], by simp [h']⟩
  clear hlo hbo hhi hb1 hb2 hg hl
  rcases ways with d1 | ⟨d1, d2, d3⟩
  all_goals
    cases p <;> cases q
    all_goals try exact absurd rfl hpq
    all_goals
      clear hpq
      go_enter Tryd.func28, Tryd.ntmps28
      go_wp2_with fail
      refine (SG.out _).mono ?_
      rintro e w1 ⟨rfl, hb⟩
      replace X := X.to hb
      clear hr hb
      have hr := X.r3
      go_wp2
      refine bodyPost_ret (v := .agg #[.int .u64 (hi : Int), .int .u64 (lo : Int), .bool (_ && ((hi : Int) != 0 || (lo : Int) != 0))]) (by simp [results, Tryd.results28, hr, go_sem]) rfl ⟨rfl, ?_⟩
      exact below_set (below_set (below_set X.1 (by omega) _) (by omega) _) (by omega) _
set_option maxHeartbeats 4000000 in
theorem wssum_more (h1 l1 h2 l2 hi lo bo : Nat) (p q : Bool) (w : World) (hpq : p ≠ q) (hl : h2 < h1 ∨ h1 = h2 ∧ l2 ≤ l1) (hlo : lo = (l1 + 18446744073709551616 - l2) % 18446744073709551616) (hbo : bo = if l1 < l2 then 1 else 0) (hhi : hi + h2 + bo = h1) (hb1 : h1 < 4611686018427387904) (hb2 : h2 < 4611686018427387904) :
    Calls Tryd.prog 28 #[.agg #[.int .u64 (h1 : Int), .int .u64 (l1 : Int), .bool p], .agg #[.int .u64 (h2 : Int), .int .u64 (l2 : Int), .bool q]] w (RetW (.agg #[.int .u64 (hi : Int), .int .u64 (lo : Int), .bool (p && ((hi : Int) != 0 || (lo : Int) != 0))]) w) := by
  have X := (((Own.start w).alloc #[.int .u64 (h1 : Int), .int .u64 (l1 : Int), .bool p] 64).alloc #[.int .u64 (h2 : Int), .int .u64 (l2 : Int), .bool q] 64).alloc #[.int .u64 0, .int .u64 0, .bool false] 64
  simp only [World.size_alloc] at X
  have SA := sub64C l1 l2 lo bo hlo hbo
  obtain ⟨g, hg⟩ : ∃ g : Nat, h1 = g + h2 := ⟨h1 - h2, by omega⟩
  have E1 : IntKind.u64.wrap ((h1 : Int) - (h2 : Int)) = (g : Int) := by rw [IntKind.wrap_u64]; omega
  have E2 : IntKind.u64.wrap ((g : Int) - (bo : Int)) = (hi : Int) := by rw [IntKind.wrap_u64]; omega
  have SG := hide (fun W => signed_any (hi : Int) (lo : Int) p W)
  have hr := X.r3
  have n1 : w.heap.size < w.heap.size + 1 + 1 := by omega
  have ways : decide (h1 < h2) = false ∧ ((h1 : Int) == (h2 : Int)) = false ∨ decide (h1 < h2) = false ∧ (((h1 : Int) == (h2 : Int)) = true ∧ decide (l1 < l2) = false) := by
    rcases hl with h | ⟨h, h'⟩
    · exact .inl ⟨by simp; omega, by simp; omega⟩
    · exact .inr ⟨by simp; omega, by simp [h], by simp [h']⟩
  clear hlo hbo hhi hb1 hb2 hg hl
  rcases ways with ⟨d1, d2⟩ | ⟨d1, d2, d3⟩
  all_goals
    cases p <;> cases q
    all_goals try exact absurd rfl hpq
    all_goals
      clear hpq
      go_enter Tryd.func28, Tryd.ntmps28
      go_wp2_with fail
      refine (SG.out _).mono ?_
      rintro e w1 ⟨rfl, hb⟩
      replace X := X.to hb
      clear hr hb
      have hr := X.r3
      go_wp2
      refine bodyPost_ret (v := .agg #[.int .u64 (hi : Int), .int .u64 (lo : Int), .bool (_ && ((hi : Int) != 0 || (lo : Int) != 0))]) (by simp [results, Tryd.results28, hr, go_sem]) rfl ⟨rfl, ?_⟩
      exact below_set (below_set (below_set X.1 (by omega) _) (by omega) _) (by omega) _
theorem wssum_any (x y : Int) (w : World) (hx : wideB x) (hy : wideB y) : Calls Tryd.prog 28 #[WN x, WN y] w (RetW (WN (x + y)) w) := by
  obtain ⟨m, hm⟩ : ∃ m, m = x.natAbs := ⟨_, rfl⟩
  obtain ⟨n, hn⟩ : ∃ n, n = y.natAbs := ⟨_, rfl⟩
  have bm : m ≤ 1267650600228229401496703205376 := by have := hx.1; have := hx.2; omega
  have bn : n ≤ 1267650600228229401496703205376 := by have := hy.1; have := hy.2; omega
  have ex : WN x = .agg #[.int .u64 ((m / 18446744073709551616 : Nat) : Int), .int .u64 ((m % 18446744073709551616 : Nat) : Int), .bool (decide (x < 0))] := by rw [hm]
  have ey : WN y = .agg #[.int .u64 ((n / 18446744073709551616 : Nat) : Int), .int .u64 ((n % 18446744073709551616 : Nat) : Int), .bool (decide (y < 0))] := by rw [hn]
  rw [ex, ey]
  by_cases hpq : decide (x < 0) = decide (y < 0)
  · have hs : (x < 0 ∧ y < 0) ∨ (0 ≤ x ∧ 0 ≤ y) := by simp only [decide_eq_decide] at hpq; omega
    have e : WN (x + y) = _ := WN_of (m := m + n) (b := decide (x < 0)) (by omega) (fun _ => by rcases hs with h | h <;> simp <;> omega)
    rw [e, ← hpq]
    exact wssum_same _ _ _ _ _ _ ((m % 18446744073709551616 + n % 18446744073709551616) / 18446744073709551616) _ w (by omega) rfl (by omega) (by omega) (by omega) (by omega) (by omega)
  · have hs : (x < 0 ∧ 0 ≤ y) ∨ (0 ≤ x ∧ y < 0) := by simp only [decide_eq_decide] at hpq; omega
    by_cases hl : m < n
    · have e : WN (x + y) = _ := WN_of (m := n - m) (b := decide (y < 0)) (by omega) (fun _ => by rcases hs with h | h <;> simp <;> omega)
      rw [e]
      exact wssum_less _ _ _ _ _ _ (if n % 18446744073709551616 < m % 18446744073709551616 then 1 else 0) _ _ w hpq (by omega) (by omega) rfl (by split <;> omega) (by omega) (by omega)
    · have e : WN (x + y) = _ := WN_of (m := m - n) (b := decide (x < 0)) (by omega) (fun _ => by rcases hs with h | h <;> simp <;> omega)
      rw [e]
      exact wssum_more _ _ _ _ _ _ (if m % 18446744073709551616 < n % 18446744073709551616 then 1 else 0) _ _ w hpq (by omega) (by omega) rfl (by split <;> omega) (by omega) (by omega)
end Go.Proofs.YtbmocghfpcfmhaaDoor

namespace Go.Proofs.YtbmocghfpcfmhaaDoor
open Go.RowKit

/-- the worlds in which the blocks of L are whole, and what was there in w is as it was -/
structure OwnW (w : World) (L : List (Nat × TypeId × Array Value)) where
  W : World
  own : Own w W L
theorem wp_region_own {P : Program} {id : Nat} {Q : Exit → Act → World → Prop} {a : Act} {w W : World} {L : List (Nat × TypeId × Array Value)} {l : List Oper} (hm : P.follows .mixedOrders = true) (hB : Region.lexB .any l.toArray = true) (hX : Own w W L)
    (h : wpQuiet P l.toArray (fun W' => ∃ x : OwnW w L, W' = x.W) (fun a' => ∀ W', (∃ x : OwnW w L, W' = x.W) → Q .normal a' W') l a) : (Code.region id l.toArray true).wp P Q a W :=
  wp_region_quiet (C := fun W' => ∃ x : OwnW w L, W' = x.W) hm hB ⟨⟨W.drew, hX.drew⟩, rfl⟩ (by simpa using h)
theorem own_call {P : Program} {f : FuncId} {args : Array Value} {w : World} {L : List (Nat × TypeId × Array Value)} {v : Value} {x : OwnW w L}
    (h : Calls P f args x.W fun e w' => e = .returned v ∧ Below x.W.heap.size x.W w') : Calls P f args x.W fun e w'' => e = .returned v ∧ ∃ y : OwnW w L, w'' = y.W :=
  h.mono fun _ w' ⟨he, hb⟩ => ⟨he, ⟨w', x.own.to hb⟩, rfl⟩
theorem own_same {P : Program} {f : FuncId} {args : Array Value} {w : World} {L : List (Nat × TypeId × Array Value)} {v : Value} {x : OwnW w L}
    (h : Calls P f args x.W fun e w' => e = .returned v ∧ x.W = w') : Calls P f args x.W fun e w'' => e = .returned v ∧ ∃ y : OwnW w L, w'' = y.W :=
  h.mono fun _ _ ⟨he, hb⟩ => ⟨he, x, hb.symm⟩
end Go.Proofs.YtbmocghfpcfmhaaDoor

namespace Go.Proofs.YtbmocghfpcfmhaaDoor
open Go Go.RowKit

section
variable {P : Program} {ops : Array Oper} {md : Region.Mode} {C : World → Prop} {n : Nat}
/-- so many picks, all out of the head, and then L -/
def picks (P : Program) (md : Region.Mode) (ops : Array Oper) (C : World → Prop) (n : Nat) (L : Array Bool → Act → Prop) : Nat → Array Bool → Act → Prop
  | 0, m, a => L m a
  | f + 1, m, a => Region.ready md ops m ≠ [] ∧ ∀ i ∈ Region.ready md ops m, i < n ∧ qOp P ops C i (picks P md ops C n L f (m.setIfInBounds i true)) a
theorem any_of_picks {L : Array Bool → Act → Prop} {g : Nat} {Q : Exit → Act → World → Prop} (h : ∀ m a w, C w → L m a → wpAny P md ops Q g m a w) (f : Nat) : ∀ m a w, C w → picks P md ops C n L f m a → wpAny P md ops Q (f + g) m a w := by
  induction f with
  | zero => intro m a w hw hp; rw [Nat.zero_add]; exact h m a w hw hp
  | succ f ih =>
    intro m a w hw hp
    rw [Nat.add_right_comm]
    refine ⟨fun e => absurd e hp.1, fun i hi => ?_⟩
    exact wpOp_of_qOp hw (fun a' w' hw' hp' => ih _ a' w' hw' hp') (hp.2 i hi).2
/-- what no longer waits for i -/
theorem not_on {m : Array Bool} {i j : Nat} (hi : i ∈ Region.ready md ops m) (hj : j ∈ Region.ready md ops m) : ∀ o, ops[j]? = some o → ∀ e ∈ o.after, Region.binds md e = true → e.on ≠ i := by
  intro o ho e he hb eq
  obtain ⟨_, o', ho', all⟩ := mem_ready.1 hj
  obtain rfl := Option.some.inj (ho.symm.trans ho')
  have q := all e he hb
  rw [eq, getD_both (mem_ready.1 hi).1] at q
  cases q
/-- one that may come up now may be taken first -/
theorem picks_take {L : Array Bool → Act → Prop} {i : Nat} {o : Oper} {v : Value} (ho : ops[i]? = some o) (hsel : Region.noSelect ops = true) (hsink : Region.sinkB md ops n = true) (hch : Region.chainB md ops n = true) (hn : n < ops.size) (hin : i < n)
    (hL : ∀ m a, L m a → ∀ j ∈ Region.ready md ops m, n ≤ j) (f : Nat) : ∀ m a, HeadInv md ops n m →
      (∀ j oj, ops[j]? = some oj → j ≠ i → m.getD j true = false → (∀ e ∈ oj.after, Region.binds md e = true → e.on ≠ i) → o.apart ops oj = true) →
      i ∈ Region.ready md ops m → YieldsIn P ops C o v a → picks P md ops C n L f (m.setIfInBounds i true) (a.put o.dst v) → picks P md ops C n L (f + 1) m a := by
  have sel := Region.noSelect_spec hsel
  induction f with
  | zero =>
    intro m a inv _ hi hy hp
    refine ⟨List.ne_nil_of_mem hi, fun j hj => ?_⟩
    by_cases e : j = i
    · subst e; exact ⟨hin, hy.qOp ho hp⟩
    · have h1 := hL _ _ hp j (ready_mono hj e)
      exact absurd hj (tail_waits hsink hch hn inv _ i rfl hin (mem_ready.1 hi).1 j h1)
  | succ f ih =>
    intro m a inv hap hi hy hp
    refine ⟨List.ne_nil_of_mem hi, fun j hj => ?_⟩
    by_cases e : j = i
    · subst e; exact ⟨hin, hy.qOp ho hp⟩
    · have hjn : j < n := Nat.lt_of_not_le fun h => tail_waits hsink hch hn inv _ i rfl hin (mem_ready.1 hi).1 j h hj
      obtain ⟨free, oj, hoj, _⟩ := mem_ready.1 hj
      have k := qOp_put hoj (hap j oj hoj e free (not_on hi hj oj hoj)) (fun cs b => sel i o cs b ho) (fun cs b => sel j oj cs b hoj) hy (hp.2 j (ready_mono hj e)).2
      refine ⟨hjn, qOp_mono (fun a' q => ih _ a' (inv.set hj hjn) (fun x ox hx hxi hxm hxe => ?_) (ready_mono hi (Ne.symm e)) q.1 ?_) k⟩
      · refine hap x ox hx hxi ?_ hxe
        by_cases ex : j = x
        · subst ex; exact free
        · rwa [getD_set_ne true ex] at hxm
      · rw [Array.setIfInBounds_comm _ _ e]; exact q.2
/-- the head in the order of the text -/
theorem picks_text {g : Nat} {T : Act → Prop} (hsel : Region.noSelect ops = true) (hsink : Region.sinkB md ops n = true) (hch : Region.chainB md ops n = true) (hn : n < ops.size) :
    ∀ (l : List Oper) (k : Nat) (m : Array Bool) (a : Act), (∀ j, j < l.length → l[j]? = ops[k + j]?) → k + l.length = n → HeadInv md ops n m → Region.lexHead md ops g l.length k m = true → wpQuiet P ops C T l a →
      picks P md ops C n (fun m' a' => Region.seqB md ops g n m' = true ∧ T a') l.length m a := by
  intro l
  induction l with
  | nil =>
    intro k m a _ hk _ hb hq
    obtain rfl : k = n := by simpa using hk
    exact ⟨by simpa [Region.lexHead] using hb, hq⟩
  | cons o l ih =>
    intro k m a hl hk inv hb hq
    have ho : ops[k]? = some o := by simpa using (hl 0 (by simp)).symm
    rw [List.length_cons] at hk
    simp only [List.length_cons, Region.lexHead, Bool.and_eq_true] at hb
    obtain ⟨⟨hr, hf⟩, hb⟩ := hb
    have hr : k ∈ Region.ready md ops m := by simpa using hr
    obtain ⟨v, hy, hrest⟩ := yieldsIn_of_qOp ho (show qOp P ops C k (wpQuiet P ops C T l) a by unfold qOp; rw [ho]; exact hq)
    refine picks_take ho hsel hsink hch hn (by omega) (fun m' a' h => seqB_ready h.1) l.length m a inv (Region.free_spec ho hf) hr hy ?_
    exact ih (k + 1) _ _ (fun j hj => by have := hl (j + 1) (by simpa using hj); rw [Nat.add_assoc, Nat.add_comm 1 j]; simpa using this) (by omega) (inv.set hr (by omega)) hb hrest
end
/-- a region whose last operations wait for all the others, which only read or call: in the order of the text -/
theorem wp_region_qtail {P : Program} {C : World → Prop} {id : Nat} {Q : Exit → Act → World → Prop} {a : Act} {w : World} {l : List Oper} (n : Nat) (hB : Region.lexTailB .any l.toArray n = true) (hm : P.follows .mixedOrders = true) (hC : C w.drew)
    (h : wpQuiet P l.toArray C (fun a' => ∀ w', C w' → wpList P l.toArray Q (l.drop n) a' w') (l.take n) a) : (Code.region id l.toArray true).wp P Q a w := by
  simp only [Region.lexTailB, Bool.and_eq_true, decide_eq_true_eq] at hB
  obtain ⟨⟨⟨⟨hsel, hn⟩, hs⟩, hc⟩, hx⟩ := hB
  have hn' : n < l.length := by simpa using hn
  have ht : (l.take n).length = n := by rw [List.length_take]; omega
  have hd : (l.drop n).length = l.toArray.size - n := by simp
  have inv : HeadInv .any l.toArray n (Array.replicate l.toArray.size false) :=
    ⟨by simp, fun j oj _ hl => (by rw [getD_replicate_false] at hl; cases hl), fun t _ ht => getD_in (by simpa using ht) (getD_replicate_false _ _)⟩
  have H := picks_text (md := .any) (g := l.toArray.size - n) hsel hs hc hn (l.take n) 0 _ a (fun j hj => by
    rw [ht] at hj
    simp [hj]) (by omega) inv (by rw [ht]; exact hx) h
  refine wp_region_any hm ?_
  have K := any_of_picks (Q := Q) (g := l.toArray.size - n) (fun m a' w' hw' hL => by
    have := wpAny_of_seq (md := .any) (Q' := Q) (l.drop n) n m a' w' (fun j => by simp [List.getElem?_drop]) (by rw [hd]; exact hL.1) (hL.2 w' hw')
    rwa [hd] at this) _ _ _ { w with drawn := w.drawn + 1 } hC H
  rw [ht, show n + (l.toArray.size - n) = l.toArray.size by omega] at K
  exact K
/-- the same at the class of the worlds in which the call's own blocks are whole -/
theorem wp_region_own_tail {P : Program} {id : Nat} {Q : Exit → Act → World → Prop} {a : Act} {w W : World} {L : List (Nat × TypeId × Array Value)} {l : List Oper} (n : Nat) (hB : Region.lexTailB .any l.toArray n = true) (hm : P.follows .mixedOrders = true) (hX : Own w W L)
    (h : wpQuiet P l.toArray (fun W' => ∃ x : OwnW w L, W' = x.W) (fun a' => ∀ W', (∃ x : OwnW w L, W' = x.W) → wpList P l.toArray Q (l.drop n) a' W') (l.take n) a) : (Code.region id l.toArray true).wp P Q a W :=
  wp_region_qtail n hB hm ⟨⟨W.drew, hX.drew⟩, rfl⟩ h
end Go.Proofs.YtbmocghfpcfmhaaDoor

namespace Go.Proofs.YtbmocghfpcfmhaaDoor
open Go Go.RowKit

theorem ownw_r1 {w W : World} {b0 : Nat} {t0 : TypeId} {c0 : Array Value} {L} (_ : Own w W ((b0, t0, c0) :: L)) (x : OwnW w ((b0, t0, c0) :: L)) :
    (∀ i, x.W.cell? ⟨b0, i, none⟩ = c0[i]?) ∧ (∀ i, x.W.frozen? ⟨b0, i, none⟩ = false) ∧ b0 < x.W.heap.size := x.own.r1
theorem ownw_r2 {w W : World} {b0 b1 : Nat} {t0 t1 : TypeId} {c0 c1 : Array Value} {L} (_ : Own w W ((b0, t0, c0) :: (b1, t1, c1) :: L)) (x : OwnW w ((b0, t0, c0) :: (b1, t1, c1) :: L)) :
    ((∀ i, x.W.cell? ⟨b0, i, none⟩ = c0[i]?) ∧ (∀ i, x.W.frozen? ⟨b0, i, none⟩ = false) ∧ b0 < x.W.heap.size) ∧
    ((∀ i, x.W.cell? ⟨b1, i, none⟩ = c1[i]?) ∧ (∀ i, x.W.frozen? ⟨b1, i, none⟩ = false) ∧ b1 < x.W.heap.size) := x.own.r2
theorem ownw_r3 {w W : World} {b0 b1 b2 : Nat} {t0 t1 t2 : TypeId} {c0 c1 c2 : Array Value} {L} (_ : Own w W ((b0, t0, c0) :: (b1, t1, c1) :: (b2, t2, c2) :: L)) (x : OwnW w ((b0, t0, c0) :: (b1, t1, c1) :: (b2, t2, c2) :: L)) :
    ((∀ i, x.W.cell? ⟨b0, i, none⟩ = c0[i]?) ∧ (∀ i, x.W.frozen? ⟨b0, i, none⟩ = false) ∧ b0 < x.W.heap.size) ∧
    ((∀ i, x.W.cell? ⟨b1, i, none⟩ = c1[i]?) ∧ (∀ i, x.W.frozen? ⟨b1, i, none⟩ = false) ∧ b1 < x.W.heap.size) ∧
    ((∀ i, x.W.cell? ⟨b2, i, none⟩ = c2[i]?) ∧ (∀ i, x.W.frozen? ⟨b2, i, none⟩ = false) ∧ b2 < x.W.heap.size) := x.own.r3
theorem ownw_r4 {w W : World} {b0 b1 b2 b3 : Nat} {t0 t1 t2 t3 : TypeId} {c0 c1 c2 c3 : Array Value} {L} (_ : Own w W ((b0, t0, c0) :: (b1, t1, c1) :: (b2, t2, c2) :: (b3, t3, c3) :: L)) (x : OwnW w ((b0, t0, c0) :: (b1, t1, c1) :: (b2, t2, c2) :: (b3, t3, c3) :: L)) :
    ((∀ i, x.W.cell? ⟨b0, i, none⟩ = c0[i]?) ∧ (∀ i, x.W.frozen? ⟨b0, i, none⟩ = false) ∧ b0 < x.W.heap.size) ∧
    ((∀ i, x.W.cell? ⟨b1, i, none⟩ = c1[i]?) ∧ (∀ i, x.W.frozen? ⟨b1, i, none⟩ = false) ∧ b1 < x.W.heap.size) ∧
    ((∀ i, x.W.cell? ⟨b2, i, none⟩ = c2[i]?) ∧ (∀ i, x.W.frozen? ⟨b2, i, none⟩ = false) ∧ b2 < x.W.heap.size) ∧
    ((∀ i, x.W.cell? ⟨b3, i, none⟩ = c3[i]?) ∧ (∀ i, x.W.frozen? ⟨b3, i, none⟩ = false) ∧ b3 < x.W.heap.size) := x.own.r4
theorem ownw_old {w W : World} {L} {b o : Nat} {v : Value} (_ : Own w W L) (hb : b < w.heap.size) (hc : w.cell? ⟨b, o, none⟩ = some v) (x : OwnW w L) : x.W.cell? ⟨b, o, none⟩ = some v := (x.own.1.cell (p := ⟨b, o, none⟩) hb).trans hc
theorem ownw_ne {w W : World} {L} (h : Own w W L) : Nonempty (OwnW w L) := ⟨⟨_, h⟩⟩
set_option maxHeartbeats 2000000 in
theorem wsadd_any (x y : Int) (w : World) (hx : wideB x) (hy : wideB y) (hz : wideB (x + y)) : Calls Tryd.prog 13 #[WV x, WV y] w (RetW (.tuple #[WV (x + y), .int .i64 0]) w) := by
  have V1 := hide (fun W => wsvalid_any x W hx)
  have V2 := hide (fun W => wsvalid_any y W hy)
  have U1 := hide (fun W => wsvalue_any x W hx)
  have U2 := hide (fun W => wsvalue_any y W hy)
  have SM := hide (fun W => wssum_any x y W hx hy)
  have PL := hide (fun W => wsplaced_any (x + y) W hz)
  unfold RetW at V1 V2 U1 U2 SM PL
  clear hx hy hz
  generalize x + y = z at *
  have X := (((Own.start w).alloc #[.int .i64 (x / 1152921504606846976), .int .i64 (x % 1152921504606846976)] 50).alloc #[.int .i64 (y / 1152921504606846976), .int .i64 (y % 1152921504606846976)] 50).alloc #[.int .i64 0, .int .i64 0] 50
  simp only [World.size_alloc] at X
  unfold WV at *
  generalize x / 1152921504606846976 = x1 at *
  generalize x % 1152921504606846976 = x2 at *
  generalize y / 1152921504606846976 = y1 at *
  generalize y % 1152921504606846976 = y2 at *
  generalize z / 1152921504606846976 = z1 at *
  generalize z % 1152921504606846976 = z2 at *
  unfold WN at *
  generalize ((x.natAbs / 18446744073709551616 : Nat) : Int) = xh at *
  generalize ((x.natAbs % 18446744073709551616 : Nat) : Int) = xl at *
  generalize decide (x < 0) = xn at *
  generalize ((y.natAbs / 18446744073709551616 : Nat) : Int) = yh at *
  generalize ((y.natAbs % 18446744073709551616 : Nat) : Int) = yl at *
  generalize decide (y < 0) = yn at *
  generalize ((z.natAbs / 18446744073709551616 : Nat) : Int) = zh at *
  generalize ((z.natAbs % 18446744073709551616 : Nat) : Int) = zl at *
  generalize decide (z < 0) = zn at *
  have n1 : w.heap.size < w.heap.size + 1 + 1 := by omega
  have hr := X.r3
  go_enter Tryd.func13, Tryd.ntmps13
  go_wp2_with fail
  refine (V1.out _).mono ?_
  rintro e w1 ⟨rfl, hb⟩
  replace X := X.to hb
  clear hr hb
  have hr := X.r3
  go_wp2_with fail
  refine (V2.out _).mono ?_
  rintro e w2 ⟨rfl, hb⟩
  replace X := X.to hb
  clear hr hb
  have hr := X.r3
  go_wp2
  have NE := ownw_ne X
  have C1 := ownw_r3 X
  refine wp_region_own_tail (w := w) 8 (by kernel_rfl) (by kernel_rfl) X ?_
  simp only [List.take_succ_cons, List.take_zero, List.drop_succ_cons, List.drop_zero]
  repeat (go_big_quiet_step ((rename_i y; first | with_reducible exact own_call (U1.out _) | with_reducible exact own_call (U2.out _) | with_reducible exact own_call (SM.out _) | with_reducible exact own_call (PL.out _))))
  refine wpQuiet_nil ?_
  rintro W ⟨⟨W, HO⟩, rfl⟩
  have hr := HO.r3
  go_wp2
  refine bodyPost_ret (v := .tuple #[.agg #[.int .i64 z1, .int .i64 z2], .int .i64 0]) (by simp [results, Tryd.results13, hr, go_sem]) rfl ⟨rfl, ?_⟩
  exact below_set (below_set HO.1 (by omega) _) (by omega) _
end Go.Proofs.YtbmocghfpcfmhaaDoor

namespace Go.Proofs.YtbmocghfpcfmhaaDoor
open Go Go.RowKit

set_option maxHeartbeats 1000000 in
theorem wsproduct_any (a b : Int) (w : World) (h1 : -9223372036854775808 ≤ a ∧ a ≤ 9223372036854775807) (h2 : -9223372036854775808 ≤ b ∧ b ≤ 9223372036854775807) (h : wideB (a * b)) :
    Calls Tryd.prog 12 #[.int .i64 a, .int .i64 b] w (RetW (.tuple #[WV (a * b), .int .i64 0]) w) := by
  have X := (Own.start w).alloc #[.int .i64 0, .int .i64 0] 50
  have T := hide (fun W => times_any a b W h1.1 h1.2 h2.1 h2.2)
  have P := hide (fun W => wsplaced_any (a * b) W h)
  unfold RetW at P
  clear h1 h2 h
  generalize a * b = v at *
  unfold WV at *
  generalize v / 1152921504606846976 = v1 at *
  generalize v % 1152921504606846976 = v2 at *
  unfold WN at *
  generalize ((v.natAbs / 18446744073709551616 : Nat) : Int) = vh at *
  generalize ((v.natAbs % 18446744073709551616 : Nat) : Int) = vl at *
  generalize decide (v < 0) = vn at *
  go_enter Tryd.func12, Tryd.ntmps12
  go_wp2_with fail
  refine (T.out _).mono ?_
  rintro e w1 ⟨rfl, hb⟩
  replace X := X.to hb
  clear hb
  have hr := X.r1
  go_wp2_with fail
  refine (P.out _).mono ?_
  rintro e w2 ⟨rfl, hb⟩
  replace X := X.to hb
  clear hb hr
  have hr := X.r1
  go_wp2
  refine bodyPost_ret (v := .tuple #[.agg #[.int .i64 v1, .int .i64 v2], .int .i64 0]) (by simp [results, Tryd.results12, hr, go_sem]) rfl ⟨rfl, ?_⟩
  exact below_set (below_set X.1 (by omega) _) (by omega) _
set_option maxHeartbeats 1000000 in
theorem wsdivided_any (v b : Int) (u : Bool) (w : World) (h : wideB v) (hb0 : b ≠ 0) (h1 : -9223372036854775808 ≤ b ∧ b ≤ 9223372036854775807) :
    Calls Tryd.prog 78 #[WV v, .int .i64 b, .bool u] w (RetW (.tuple #[.int .i64 (i64V (quo v b u)), .int .i64 (i64E (quo v b u))]) w) := by
  have g : (b == 0) = false := beq_eq_false_iff_ne.2 hb0
  have X := (Own.start w).alloc #[.int .i64 (v / 1152921504606846976), .int .i64 (v % 1152921504606846976)] 50
  have V := hide (fun W => wsvalid_any v W h)
  have U := hide (fun W => wsvalue_any v W h)
  have Q := hide (fun W => quotient_full (v := v) hb0 u W h1.1 h1.2)
  unfold RetW at V U
  unfold QuoPost at Q
  clear h hb0 h1
  generalize i64V (quo v b u) = r1 at *
  generalize i64E (quo v b u) = r2 at *
  unfold WV at *
  generalize v / 1152921504606846976 = v1 at *
  generalize v % 1152921504606846976 = v2 at *
  unfold WN at *
  generalize ((v.natAbs / 18446744073709551616 : Nat) : Int) = vh at *
  generalize ((v.natAbs % 18446744073709551616 : Nat) : Int) = vl at *
  generalize decide (v < 0) = vn at *
  go_enter Tryd.func78, Tryd.ntmps78
  go_wp2_with fail
  refine (V.out _).mono ?_
  rintro e w1 ⟨rfl, hb⟩
  replace X := X.to hb
  clear hb
  have hr := X.r1
  go_wp2_with fail
  refine (U.out _).mono ?_
  rintro e w2 ⟨rfl, hb⟩
  replace X := X.to hb
  clear hb hr
  have hr := X.r1
  go_wp2_with fail
  refine (Q.out _).mono ?_
  rintro e w3 ⟨rfl, hb⟩
  replace X := X.to hb
  clear hb hr
  go_wp2
  go_ret2
  exact ⟨rfl, X.1⟩
set_option maxHeartbeats 1000000 in
theorem wsfloor_any (v b : Int) (w : World) (h : wideB v) (hb0 : b ≠ 0) (h1 : -9223372036854775808 ≤ b ∧ b ≤ 9223372036854775807) :
    Calls Tryd.prog 71 #[WV v, .int .i64 b] w (RetW (.tuple #[.int .i64 (i64V (dn v b)), .int .i64 (i64E (dn v b))]) w) := by
  have X := (Own.start w).alloc #[.int .i64 (v / 1152921504606846976), .int .i64 (v % 1152921504606846976)] 50
  have Q := hide (fun W => wsdivided_any v b false W h hb0 h1)
  unfold RetW at Q
  rw [show quo v b false = dn v b from rfl] at Q
  clear h hb0 h1
  generalize i64V (dn v b) = r1 at *
  generalize i64E (dn v b) = r2 at *
  unfold WV at *
  generalize v / 1152921504606846976 = v1 at *
  generalize v % 1152921504606846976 = v2 at *
  go_enter Tryd.func71, Tryd.ntmps71
  go_wp2_with fail
  refine (Q.out _).mono ?_
  rintro e w3 ⟨rfl, hb⟩
  replace X := X.to hb
  clear hb
  go_wp2
  go_ret2
  exact ⟨rfl, X.1⟩
set_option maxHeartbeats 1000000 in
theorem wsceil_any (v b : Int) (w : World) (h : wideB v) (hb0 : b ≠ 0) (h1 : -9223372036854775808 ≤ b ∧ b ≤ 9223372036854775807) :
    Calls Tryd.prog 72 #[WV v, .int .i64 b] w (RetW (.tuple #[.int .i64 (i64V (up v b)), .int .i64 (i64E (up v b))]) w) := by
  have X := (Own.start w).alloc #[.int .i64 (v / 1152921504606846976), .int .i64 (v % 1152921504606846976)] 50
  have Q := hide (fun W => wsdivided_any v b true W h hb0 h1)
  unfold RetW at Q
  rw [show quo v b true = up v b from rfl] at Q
  clear h hb0 h1
  generalize i64V (up v b) = r1 at *
  generalize i64E (up v b) = r2 at *
  unfold WV at *
  generalize v / 1152921504606846976 = v1 at *
  generalize v % 1152921504606846976 = v2 at *
  go_enter Tryd.func72, Tryd.ntmps72
  go_wp2_with fail
  refine (Q.out _).mono ?_
  rintro e w3 ⟨rfl, hb⟩
  replace X := X.to hb
  clear hb
  go_wp2
  go_ret2
  exact ⟨rfl, X.1⟩
set_option maxHeartbeats 1000000 in
theorem wsint_any (v : Int) (w : World) (h : wideB v) : Calls Tryd.prog 14 #[WV v] w (RetW (.tuple #[.int .i64 (i64V v), .int .i64 (i64E v)]) w) := by
  have X := (Own.start w).alloc #[.int .i64 (v / 1152921504606846976), .int .i64 (v % 1152921504606846976)] 50
  have V := hide (fun W => wsvalid_any v W h)
  have U := hide (fun W => wsvalue_any v W h)
  unfold RetW at V U
  have e0 : v = sgn (v.natAbs : Int) (decide (v < 0)) := by
    unfold sgn
    by_cases k : v < 0 <;> simp [k] <;> omega
  by_cases k : v.natAbs < 18446744073709551616
  · obtain ⟨m, hm⟩ : ∃ m, m = v.natAbs := ⟨_, rfl⟩
    have W1 := hide (fun W => whole_any (m : Int) (decide (v < 0)) W (by omega) (by omega))
    rw [hm, ← e0] at W1
    have eN : WN v = .agg #[.int .u64 0, .int .u64 (v.natAbs : Int), .bool (decide (v < 0))] := by
      unfold WN
      rw [Nat.div_eq_of_lt k, Nat.mod_eq_of_lt k]
      rfl
    rw [eN] at U
    clear h e0 k eN hm
    generalize i64V v = r1 at *
    generalize i64E v = r2 at *
    unfold WV at *
    generalize v / 1152921504606846976 = v1 at *
    generalize v % 1152921504606846976 = v2 at *
    generalize (v.natAbs : Int) = vl at *
    generalize decide (v < 0) = vn at *
    go_enter Tryd.func14, Tryd.ntmps14
    go_wp2_with fail
    refine (V.out _).mono ?_
    rintro e w1 ⟨rfl, hb⟩
    replace X := X.to hb
    clear hb
    have hr := X.r1
    go_wp2_with fail
    refine (U.out _).mono ?_
    rintro e w2 ⟨rfl, hb⟩
    replace X := (X.to hb).alloc #[.int .u64 0, .int .u64 vl, .bool vn] 64
    clear hb hr
    have hr := X.r2
    go_wp2_with fail
    refine (W1.out _).mono ?_
    rintro e w3 ⟨rfl, rfl⟩
    go_wp2
    go_ret2
    exact ⟨rfl, X.1⟩
  · have hB : i64B v = false := by
      cases e : i64B v with
      | false => rfl
      | true => have := i64B_iff.1 e; omega
    have E := i64_no hB
    have hh : 0 < v.natAbs / 18446744073709551616 := by omega
    have hh2 : ((v.natAbs / 18446744073709551616 : Nat) : Int) > 0 := by omega
    rw [E.1, E.2]
    clear h e0 k hB E hh
    unfold WN WV at *
    generalize v / 1152921504606846976 = v1 at *
    generalize v % 1152921504606846976 = v2 at *
    generalize ((v.natAbs / 18446744073709551616 : Nat) : Int) = vh at *
    generalize ((v.natAbs % 18446744073709551616 : Nat) : Int) = vl at *
    generalize decide (v < 0) = vn at *
    go_enter Tryd.func14, Tryd.ntmps14
    go_wp2_with fail
    refine (V.out _).mono ?_
    rintro e w1 ⟨rfl, hb⟩
    replace X := X.to hb
    clear hb
    have hr := X.r1
    go_wp2_with fail
    refine (U.out _).mono ?_
    rintro e w2 ⟨rfl, hb⟩
    replace X := (X.to hb).alloc #[.int .u64 vh, .int .u64 vl, .bool vn] 64
    clear hb hr
    have hr := X.r2
    go_wp2
    go_ret2
    exact ⟨rfl, X.1⟩
set_option maxHeartbeats 1000000 in
theorem wsof_any (n : Int) (w : World) (h1 : -9223372036854775808 ≤ n ∧ n ≤ 9223372036854775807) : Calls Tryd.prog 11 #[.int .i64 n] w (RetW (WV n) w) := by
  have X := (Own.start w).alloc #[.int .i64 0, .int .i64 0] 50
  have SZ := hide (fun W => wsize_any n W h1.1 h1.2)
  have SG := hide (fun W => signed_any 0 (n.natAbs : Int) (decide (n < 0)) W)
  have PL := hide (fun W => wsplaced_any n W ⟨by omega, by omega⟩)
  have eN : WN n = .agg #[.int .u64 0, .int .u64 (n.natAbs : Int), .bool (decide (n < 0) && ((0 : Int) != 0 || (n.natAbs : Int) != 0))] := by
    have k : n.natAbs < 18446744073709551616 := by omega
    have := WN_of (x := n) (m := n.natAbs) (b := decide (n < 0)) rfl (fun _ => rfl)
    rw [Nat.div_eq_of_lt k, Nat.mod_eq_of_lt k] at this
    exact this
  rw [eN] at PL
  unfold RetW at PL
  clear h1 eN
  unfold WV at *
  generalize n / 1152921504606846976 = v1 at *
  generalize n % 1152921504606846976 = v2 at *
  go_enter Tryd.func11, Tryd.ntmps11
  go_wp2_with fail
  refine (SZ.out _).mono ?_
  rintro e w' ⟨rfl, rfl⟩
  go_wp2_with fail
  refine (SG.out _).mono ?_
  rintro e w1 ⟨rfl, hb⟩
  replace X := X.to hb
  clear hb
  have hr := X.r1
  go_wp2_with fail
  refine (PL.out _).mono ?_
  rintro e w2 ⟨rfl, hb⟩
  replace X := (X.to hb).alloc #[.int .i64 v1, .int .i64 v2] 50
  clear hb hr
  have hr := X.r2
  go_wp2
  refine bodyPost_ret (v := .agg #[.int .i64 v1, .int .i64 v2]) (by simp [results, Tryd.results11, hr, go_sem]) rfl ⟨rfl, ?_⟩
  exact below_set (below_set X.1 (by omega) _) (by omega) _
end Go.Proofs.YtbmocghfpcfmhaaDoor
