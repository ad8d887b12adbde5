/- The program's wide integers: size, signed, times, whole, quotient, Scale: what each returns, where the high word is 0 or the divisor is 1; nothing that was there is turned. -/
import Derived.Test.YtgflgnbbkhikcaaDoorSpWidePlain
import Derived.Test.YtgflgnbbkhikcaaDoorSpFn
import Derived.Test.YtgflgnbbkhikcaaDoorDivLow
import Derived.Test.YtgflgnbbkhikcaaDoorShelf
namespace Go.Proofs.YtgflgnbbkhikcaaDoor
open Go.RowKit

set_option maxHeartbeats 400000 in
theorem wsize_any (n : Int) (w : World) (h1 : -9223372036854775808 ≤ n) (h2 : n ≤ 9223372036854775807) :
    Calls Tryd.prog 88 #[.int .i64 n] w fun e w' => e = .returned (.int .u64 (n.natAbs : Int)) ∧ w = w' := by
  by_cases h : n < 0
  all_goals
    go_enter Tryd.func88, Tryd.ntmps88
    go_wp2
    go_ret
    refine ⟨ret_int ?_, rfl⟩
    try simp only [IntKind.wrap_u64]
    omega
set_option maxHeartbeats 400000 in
theorem signed_any (h l : Int) (b : Bool) (w : World) :
    Calls Tryd.prog 89 #[.int .u64 h, .int .u64 l, .bool b] w fun e w' => e = .returned (.agg #[.int .u64 h, .int .u64 l, .bool (b && (h != 0 || l != 0))]) ∧ Below w.heap.size w w' := by
  cases b
  · go_enter Tryd.func89, Tryd.ntmps89
    go_wp2
    refine bodyPost_ret (v := .agg #[.int .u64 h, .int .u64 l, .bool false]) (by simp [results, Tryd.results89, go_sem]) rfl ⟨rfl, by go_grown⟩
  · rcases Bool.eq_false_or_eq_true (h != 0) with k | k
    all_goals
      go_enter Tryd.func89, Tryd.ntmps89
      go_wp2
      refine bodyPost_ret (v := .agg #[.int .u64 h, .int .u64 l, .bool (true && (h != 0 || l != 0))]) (by simp [results, Tryd.results89, go_sem, k]) rfl ⟨rfl, by go_grown⟩
set_option maxHeartbeats 400000 in
theorem times_any (a b : Int) (w : World) (h1 : -9223372036854775808 ≤ a) (h2 : a ≤ 9223372036854775807) (h3 : -9223372036854775808 ≤ b) (h4 : b ≤ 9223372036854775807) :
    Calls Tryd.prog 74 #[.int .i64 a, .int .i64 b] w fun e w' => e = .returned (WN (a * b)) ∧ Below w.heap.size w w' := by
  have ha : a.natAbs < 18446744073709551616 := by omega
  have hb : b.natAbs < 18446744073709551616 := by omega
  have X := (Own.start w).alloc #[.int .u64 0, .int .u64 0, .bool false] 96
  have HW := hide (wn_mul a b)
  go_enter Tryd.func74, Tryd.ntmps74
  go_wp2_with fail
  refine (wsize_any _ _ h1 h2).mono ?_
  rintro e w' ⟨rfl, rfl⟩
  go_wp2_with fail
  refine (wsize_any _ _ h3 h4).mono ?_
  rintro e w' ⟨rfl, rfl⟩
  go_wp2_with fail
  refine (Tryd.bits_Mul64 _ _ ha hb _).mono ?_
  rintro e w' ⟨rfl, rfl⟩
  go_wp2_with fail
  refine (signed_any _ _ _ _).mono ?_
  rintro e w1 ⟨rfl, hb1⟩
  replace X := X.to hb1
  clear hb1
  have hr := X.r1
  go_wp2
  refine bodyPost_ret (v := .agg #[.int .u64 ((a.natAbs * b.natAbs / 18446744073709551616 : Nat) : Int), .int .u64 ((a.natAbs * b.natAbs % 18446744073709551616 : Nat) : Int), .bool ((decide (a < 0) != decide (b < 0)) && (((a.natAbs * b.natAbs / 18446744073709551616 : Nat) : Int) != 0 || ((a.natAbs * b.natAbs % 18446744073709551616 : Nat) : Int) != 0))]) (by simp [results, Tryd.results74, hr, go_sem]; cases decide (a < 0) <;> cases decide (b < 0) <;> rfl) rfl ⟨by rw [HW.out], ?_⟩
  have HX := X.1
  have hz := HX.size
  go_grown
set_option maxHeartbeats 400000 in
theorem whole_any (n : Int) (b : Bool) (w : World) (h0 : 0 ≤ n) (h1 : n ≤ 18446744073709551615) :
    Calls Tryd.prog 91 #[.int .u64 n, .bool b] w fun e w' => e = .returned (.tuple #[.int .i64 (i64V (sgn n b)), .int .i64 (i64E (sgn n b))]) ∧ w = w' := by
  have hc : i64B (sgn n b) = true ∨ i64B (sgn n b) = false := by cases i64B (sgn n b) <;> simp
  cases b
  · by_cases h : n ≤ 9223372036854775807
    · have E := hide (i64_yes (x := sgn n false) (i64B_iff.2 (by simp [sgn]; omega)))
      clear hc
      go_enter Tryd.func91, Tryd.ntmps91
      go_wp2
      go_ret2
      exact ⟨ret2_int (by rw [E.out.2]; rfl) (by rw [E.out.1]), rfl⟩
    · have E := hide (i64_no (x := sgn n false) (by simp [i64B, sgn]; omega))
      clear hc
      go_enter Tryd.func91, Tryd.ntmps91
      go_wp2
      go_ret2
      exact ⟨ret2_int (by rw [E.out.2]) (by rw [E.out.1]), rfl⟩
  · by_cases h : n ≤ 9223372036854775808
    · have E := hide (i64_yes (x := sgn n true) (i64B_iff.2 (by simp [sgn]; omega)))
      clear hc
      go_enter Tryd.func91, Tryd.ntmps91
      go_wp2
      go_ret2
      refine ⟨ret2_int ?_ (by rw [E.out.1]), rfl⟩
      rw [E.out.2]
      simp only [sgn, if_true, IntKind.wrap_u64, wrap64]
      omega
    · have E := hide (i64_no (x := sgn n true) (by simp [i64B, sgn]; omega))
      clear hc
      go_enter Tryd.func91, Tryd.ntmps91
      go_wp2
      go_ret2
      exact ⟨ret2_int (by rw [E.out.2]) (by rw [E.out.1]), rfl⟩
theorem below_dn {B : Nat} {a w : World} (h : Below B a w) (n : Nat) : Below B a (w.drewN n) := ⟨h.os, h.tape, h.output, h.size, h.block⟩
theorem quo_parts {v b : Int} {m : Nat} {ng : Bool} (hb : b ≠ 0) (hm : v.natAbs = m) (hn : decide (v < 0) = ng) (u : Bool) : ∃ q r : Nat, q = m / b.natAbs ∧ r = m % b.natAbs ∧ (r ≠ 0 → q ≤ m / 2) ∧ q ≤ m ∧
    quo v b u = sgn ((q : Int) + if r ≠ 0 ∧ ((ng != decide (b < 0)) != u) = true then 1 else 0) (ng != decide (b < 0)) := by
  refine ⟨_, _, rfl, rfl, fun hr => ?_, Nat.div_le_self _ _, ?_⟩
  · have : b.natAbs ≠ 1 := fun e => hr (by rw [e, Nat.mod_one])
    exact Nat.div_le_div_left (by omega) (by omega)
  · rw [quo_magn hb u]
    unfold magn sgn
    rw [hm, hn]
    split <;> split <;> simp
theorem sgn_pos {x : Int} (hx : 0 ≤ x) : sgn x (decide (0 < x)) = sgn x true := by
  by_cases h : 0 < x
  · simp [sgn, h]
  · have : x = 0 := by omega
    subst this; rfl
def QuoPost (v b : Int) (u : Bool) (w : World) (e : Ending) (w' : World) : Prop := e = .returned (.tuple #[.int .i64 (i64V (quo v b u)), .int .i64 (i64E (quo v b u))]) ∧ Below w.heap.size w w'
theorem QuoPost.mk {v b : Int} {u : Bool} {w w' : World} {x : Int} (h : quo v b u = x) (hb : Below w.heap.size w w') : QuoPost v b u w (.returned (.tuple #[.int .i64 (i64V x), .int .i64 (i64E x)])) w' := by subst h; exact ⟨rfl, hb⟩
set_option maxHeartbeats 4000000 in
theorem quotient_low {v b : Int} {m : Nat} {ng : Bool} (hb : b ≠ 0) (hm : v.natAbs = m) (hn : decide (v < 0) = ng) (u : Bool) (w : World) (hm' : m < 18446744073709551616) (h1 : -9223372036854775808 ≤ b) (h2 : b ≤ 9223372036854775807) :
    Calls Tryd.prog 75 #[.agg #[.int .u64 0, .int .u64 m, .bool ng], .int .i64 b, .bool u] w (QuoPost v b u w) := by
  obtain ⟨q, r, hq, hr, hq2, hqm, HQ⟩ := quo_parts hb hm hn u
  replace HQ := hide HQ
  have Hq := hide hq
  have Hr := hide hr
  have d0 : 0 < b.natAbs := by omega
  have d1 : ¬ ((0 : Int) ≥ (b.natAbs : Int)) := by omega
  have d2 : b.natAbs < 18446744073709551616 := by omega
  have X := (Own.start w).alloc #[.int .u64 0, .int .u64 m, .bool ng] 96
  clear hq hr hm hn hb
  by_cases hr0 : r = 0
  · have HR0 := hide hr0
    have g1 : decide (0 < r) = false := by simp; omega
    clear hr0 hq2
    rcases Bool.eq_false_or_eq_true (decide (b < 0)) with hbn | hbn
    all_goals
      have HB := hide hbn
      cases ng
      all_goals
        go_enter Tryd.func75, Tryd.ntmps75
        go_wp2_with fail
        refine (wsize_any _ _ h1 h2).mono ?_
        rintro e w' ⟨rfl, rfl⟩
        have hr := X.r1
        go_wp2_with fail
        refine (div64_low m b.natAbs hm' d0 d2 _).mono ?_
        rintro e w1 ⟨rfl, nn, rfl⟩
        rw [← Hq.out, ← Hr.out]
        go_wp2_with fail
        refine (whole_any _ _ _ (by omega) (by omega)).mono ?_
        rintro e w' ⟨rfl, rfl⟩
        go_wp2
        go_ret2
        refine QuoPost.mk ?_ (below_dn X.1 nn)
        rw [HQ.out, HR0.out]
        have hq0 : (0 : Int) ≤ (q : Int) := by omega
        simp [HB.out, sgn] <;> omega
  · have HR0 := hide hr0
    have hq3 := hq2 hr0
    have g1 : decide (0 < r) = true := by simp; omega
    have g2 : ((q : Int) + 1 == 0) = false := by simp; omega
    have g3 : IntKind.u64.wrap ((q : Int) + 1) = (q : Int) + 1 := by rw [IntKind.wrap_u64]; omega
    clear hr0 hq2
    rcases Bool.eq_false_or_eq_true (decide (b < 0)) with hbn | hbn
    all_goals
      have HB := hide hbn
      cases ng
      all_goals
        cases u
        all_goals
          go_enter Tryd.func75, Tryd.ntmps75
          go_wp2_with fail
          refine (wsize_any _ _ h1 h2).mono ?_
          rintro e w' ⟨rfl, rfl⟩
          have hr := X.r1
          go_wp2_with fail
          refine (div64_low m b.natAbs hm' d0 d2 _).mono ?_
          rintro e w1 ⟨rfl, nn, rfl⟩
          rw [← Hq.out, ← Hr.out]
          go_wp2_with fail
          refine (whole_any _ _ _ (by omega) (by omega)).mono ?_
          rintro e w' ⟨rfl, rfl⟩
          go_wp2
          go_ret2
          refine QuoPost.mk ?_ (below_dn X.1 nn)
          rw [HQ.out]
          have hq0 : (0 : Int) ≤ (q : Int) := by omega
          simp [HB.out, HR0.out, sgn] <;> omega
theorem quotient_big {v b : Int} (hd : b.natAbs ≤ v.natAbs / 18446744073709551616) (hb : b ≠ 0) (u : Bool) (w : World) (h1 : -9223372036854775808 ≤ b) (h2 : b ≤ 9223372036854775807) :
    Calls Tryd.prog 75 #[WN v, .int .i64 b, .bool u] w (QuoPost v b u w) := by
  have hx : i64B (quo v b u) = false := by
    have hm : 18446744073709551616 ≤ magn v b u := by
      unfold magn
      have : 18446744073709551616 ≤ v.natAbs / b.natAbs := by
        rw [Nat.le_div_iff_mul_le (by omega)]
        have := Nat.div_mul_le_self v.natAbs 18446744073709551616
        have := Nat.mul_le_mul_left 18446744073709551616 hd
        omega
      omega
    rw [quo_magn hb u]
    simp only [i64B, decide_eq_false_iff_not]
    split <;> omega
  have E := hide (i64_no hx)
  have X := (Own.start w).alloc #[.int .u64 ((v.natAbs / 18446744073709551616 : Nat) : Int), .int .u64 ((v.natAbs % 18446744073709551616 : Nat) : Int), .bool (decide (v < 0))] 96
  have hd' : ((b.natAbs : Nat) : Int) ≤ ((v.natAbs / 18446744073709551616 : Nat) : Int) := by omega
  have E2 : QuoPost v b u w (.returned (.tuple #[.int .i64 0, .int .i64 5])) (w.alloc (.cells #[.int .u64 ((v.natAbs / 18446744073709551616 : Nat) : Int), .int .u64 ((v.natAbs % 18446744073709551616 : Nat) : Int), .bool (decide (v < 0))] 96)) := by
    refine ⟨?_, X.1⟩
    rw [E.out.1, E.out.2]
  have HE := hide E2
  clear hx hd hb E2
  unfold WN
  generalize ((v.natAbs / 18446744073709551616 : Nat) : Int) = hi at *
  generalize ((v.natAbs % 18446744073709551616 : Nat) : Int) = lo at *
  generalize decide (v < 0) = ng at *
  go_enter Tryd.func75, Tryd.ntmps75
  go_wp2_with fail
  refine (wsize_any _ _ h1 h2).mono ?_
  rintro e w' ⟨rfl, rfl⟩
  have hr := X.r1
  go_wp2
  go_ret2
  exact HE.out
theorem quotient_any {v b : Int} (hp : v.natAbs < 18446744073709551616 ∨ b.natAbs = 1) (hb : b ≠ 0) (u : Bool) (w : World) (h1 : -9223372036854775808 ≤ b) (h2 : b ≤ 9223372036854775807) :
    Calls Tryd.prog 75 #[WN v, .int .i64 b, .bool u] w (QuoPost v b u w) := by
  by_cases h : v.natAbs < 18446744073709551616
  · have e : WN v = .agg #[.int .u64 0, .int .u64 (v.natAbs : Int), .bool (decide (v < 0))] := by
      unfold WN
      rw [Nat.div_eq_of_lt h, Nat.mod_eq_of_lt h]
      rfl
    rw [e]
    exact quotient_low hb rfl rfl u w h h1 h2
  · exact quotient_big (by omega) hb u w h1 h2
theorem scE_cases (n m d : Int) (h : d ≠ 0) : (scE n m d = 0 ∧ i64B (dn (n * m) d) = true ∧ i64B (up (n * m) d) = true ∧ scLo n m d = dn (n * m) d ∧ scHi n m d = up (n * m) d) ∨
    (i64B (dn (n * m) d) = false ∧ scE n m d = 5 ∧ scLo n m d = 0 ∧ scHi n m d = 0) ∨ (i64B (dn (n * m) d) = true ∧ i64B (up (n * m) d) = false ∧ scE n m d = 5 ∧ scLo n m d = 0 ∧ scHi n m d = 0) := by
  unfold scE scLo scHi
  cases h1 : i64B (dn (n * m) d) <;> cases h2 : i64B (up (n * m) d) <;> simp [h]
set_option maxHeartbeats 1000000 in
theorem scale_any (n m d : Int) (w : World) (hd : d ≠ 0) (hp : (n * m).natAbs < 18446744073709551616 ∨ d.natAbs = 1) (h1 : -9223372036854775808 ≤ n) (h2 : n ≤ 9223372036854775807) (h3 : -9223372036854775808 ≤ m) (h4 : m ≤ 9223372036854775807) (h5 : -9223372036854775808 ≤ d) (h6 : d ≤ 9223372036854775807) :
    Calls Tryd.prog 60 #[.int .i64 n, .int .i64 m, .int .i64 d] w fun e w' => e = .returned (.tuple #[.int .i64 (scLo n m d), .int .i64 (scHi n m d), .int .i64 (scE n m d)]) ∧ Below w.heap.size w w' := by
  have hd' : (d == 0) = false := by simp [hd]
  have H0 := hide hd
  have HP := hide hp
  clear hp hd
  rcases scE_cases n m d H0.out with ⟨e1, e2, e3, e4, e5⟩ | ⟨e2, e1, e4, e5⟩ | ⟨e2, e3, e1, e4, e5⟩
  · have q1 := hide (i64_yes (x := quo (n * m) d false) e2)
    have q2 := hide (i64_yes (x := quo (n * m) d true) e3)
    rw [e1, e4, e5]
    clear e1 e2 e3 e4 e5
    go_enter Tryd.func60, Tryd.ntmps60
    go_wp2_with fail
    refine (times_any n m _ h1 h2 h3 h4).mono ?_
    rintro e w1 ⟨rfl, hb⟩
    have X := ((Own.start w).to hb).alloc #[.int .u64 (((n * m).natAbs / 18446744073709551616 : Nat) : Int), .int .u64 (((n * m).natAbs % 18446744073709551616 : Nat) : Int), .bool (decide (n * m < 0))] 96
    clear hb
    have hr := X.r1
    go_wp2_with fail
    refine (quotient_any (v := n * m) HP.out H0.out false _ h5 h6).mono ?_
    rintro e w2 ⟨rfl, hb⟩
    replace X := X.to hb
    clear hb hr
    have hr := X.r1
    rw [q1.out.1, q1.out.2]
    go_wp2_with fail
    refine (quotient_any (v := n * m) HP.out H0.out true _ h5 h6).mono ?_
    rintro e w3 ⟨rfl, hb⟩
    replace X := X.to hb
    clear hb hr
    rw [q2.out.1, q2.out.2]
    go_wp2
    go_ret3
    exact ⟨rfl, X.1⟩
  · have q1 := hide (i64_no (x := quo (n * m) d false) e2)
    rw [e1, e4, e5]
    clear e1 e2 e4 e5
    go_enter Tryd.func60, Tryd.ntmps60
    go_wp2_with fail
    refine (times_any n m _ h1 h2 h3 h4).mono ?_
    rintro e w1 ⟨rfl, hb⟩
    have X := ((Own.start w).to hb).alloc #[.int .u64 (((n * m).natAbs / 18446744073709551616 : Nat) : Int), .int .u64 (((n * m).natAbs % 18446744073709551616 : Nat) : Int), .bool (decide (n * m < 0))] 96
    clear hb
    have hr := X.r1
    go_wp2_with fail
    refine (quotient_any (v := n * m) HP.out H0.out false _ h5 h6).mono ?_
    rintro e w2 ⟨rfl, hb⟩
    replace X := X.to hb
    clear hb hr
    rw [q1.out.1, q1.out.2]
    go_wp2
    go_ret3
    exact ⟨rfl, X.1⟩
  · have q1 := hide (i64_yes (x := quo (n * m) d false) e2)
    have q2 := hide (i64_no (x := quo (n * m) d true) e3)
    rw [e1, e4, e5]
    clear e1 e2 e3 e4 e5
    go_enter Tryd.func60, Tryd.ntmps60
    go_wp2_with fail
    refine (times_any n m _ h1 h2 h3 h4).mono ?_
    rintro e w1 ⟨rfl, hb⟩
    have X := ((Own.start w).to hb).alloc #[.int .u64 (((n * m).natAbs / 18446744073709551616 : Nat) : Int), .int .u64 (((n * m).natAbs % 18446744073709551616 : Nat) : Int), .bool (decide (n * m < 0))] 96
    clear hb
    have hr := X.r1
    go_wp2_with fail
    refine (quotient_any (v := n * m) HP.out H0.out false _ h5 h6).mono ?_
    rintro e w2 ⟨rfl, hb⟩
    replace X := X.to hb
    clear hb hr
    have hr := X.r1
    rw [q1.out.1, q1.out.2]
    go_wp2_with fail
    refine (quotient_any (v := n * m) HP.out H0.out true _ h5 h6).mono ?_
    rintro e w3 ⟨rfl, hb⟩
    replace X := X.to hb
    clear hb hr
    rw [q2.out.1, q2.out.2]
    go_wp2
    go_ret3
    exact ⟨rfl, X.1⟩
end Go.Proofs.YtgflgnbbkhikcaaDoor
