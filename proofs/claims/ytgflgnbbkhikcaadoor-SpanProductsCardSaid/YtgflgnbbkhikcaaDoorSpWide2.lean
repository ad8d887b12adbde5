/- The program's wide quotient and Scale for any numbers (printed by gen_prod.py): what each returns; nothing that was there is turned. -/
import Derived.Test.YtgflgnbbkhikcaaDoorSpWide
import Derived.Test.YtgflgnbbkhikcaaDoorDiv64A
namespace Go.Proofs.YtgflgnbbkhikcaaDoor
open Go.RowKit

theorem QuoPost.big {v b : Int} {u : Bool} {w w' : World} {x : Int} (h : quo v b u = x) (hx : i64B x = false) (hb : Below w.heap.size w w') : QuoPost v b u w (.returned (.tuple #[.int .i64 0, .int .i64 5])) w' := by
  subst h
  refine ⟨?_, hb⟩
  rw [(i64_no hx).1, (i64_no hx).2]
theorem quo_lt {m h l b q : Nat} (hm : m = h * 18446744073709551616 + l) (hl : l < 18446744073709551616) (hh : h < b) (hq : q = m / b) : q < 18446744073709551616 := by
  rw [hq]
  refine (Nat.div_lt_iff_lt_mul (by omega)).2 ?_
  have : (h + 1) * 18446744073709551616 ≤ b * 18446744073709551616 := Nat.mul_le_mul_right _ hh
  omega
set_option maxRecDepth 100000 in
set_option maxHeartbeats 4000000 in
theorem quotient_gen {v b : Int} {h l : Nat} {ng : Bool} (hb : b ≠ 0) (hm : v.natAbs = h * 18446744073709551616 + l) (hl : l < 18446744073709551616) (hn : decide (v < 0) = ng) (hh : h < b.natAbs) (u : Bool) (w : World) (h1 : -9223372036854775808 ≤ b) (h2 : b ≤ 9223372036854775807) :
    Calls Tryd.prog 75 #[.agg #[.int .u64 (h : Int), .int .u64 (l : Int), .bool ng], .int .i64 b, .bool u] w (QuoPost v b u w) := by
  obtain ⟨q, r, hq, hr, hq2, hqm, HQ⟩ := quo_parts hb hm hn u
  replace HQ := hide HQ
  have ql := quo_lt rfl hl hh hq
  have Hq := hide hq
  have Hr := hide hr
  have d1 : ¬ ((h : Int) ≥ (b.natAbs : Int)) := by omega
  have d2 : b.natAbs < 18446744073709551616 := by omega
  have d3 : decide ((b.natAbs : Int) ≤ (h : Int)) = false := decide_eq_false (by omega)
  have d4 : decide (b.natAbs ≤ h) = false := decide_eq_false (by omega)
  have DV := hide (fun W => div64_any h l b.natAbs hh hl d2 W)
  have X := (Own.start w).alloc #[.int .u64 (h : Int), .int .u64 (l : Int), .bool ng] 96
  clear hq hr hm hn hb hq2 hqm hl
  by_cases hr0 : r = 0
  · have HR0 := hide hr0
    have g1 : decide (0 < r) = false := by simp; omega
    clear hr0
    rcases Bool.eq_false_or_eq_true (decide (b < 0)) with hbn | hbn
    all_goals
      have HB := hide hbn
      cases ng
      all_goals
        go_enter Tryd.func75, Tryd.ntmps75
        go_wp2_with fail
        refine (wsize_any _ _ h1 h2).mono ?_
        rintro e w' ⟨rfl, rfl⟩
        have hr := X.r1
        go_wp2_with fail
        refine (DV.out _).mono ?_
        rintro e w1 ⟨rfl, nn, rfl⟩
        rw [← Hq.out, ← Hr.out]
        go_wp2_with fail
        refine (whole_any _ _ _ (by omega) (by omega)).mono ?_
        rintro e w' ⟨rfl, rfl⟩
        go_wp2
        go_ret2
        refine QuoPost.mk ?_ (below_dn X.1 nn)
        rw [HQ.out, HR0.out]
        have hq0 : (0 : Int) ≤ (q : Int) := by omega
        simp [HB.out, sgn] <;> omega
  · have HR0 := hide hr0
    have g1 : decide (0 < r) = true := by simp; omega
    clear hr0
    by_cases hq4 : q + 1 < 18446744073709551616
    · have g2 : ((q : Int) + 1 == 0) = false := by simp; omega
      have g3 : IntKind.u64.wrap ((q : Int) + 1) = (q : Int) + 1 := by rw [IntKind.wrap_u64]; omega
      rcases Bool.eq_false_or_eq_true (decide (b < 0)) with hbn | hbn
      all_goals
        have HB := hide hbn
        cases ng
        all_goals
          cases u
          all_goals
            go_enter Tryd.func75, Tryd.ntmps75
            go_wp2_with fail
            refine (wsize_any _ _ h1 h2).mono ?_
            rintro e w' ⟨rfl, rfl⟩
            have hr := X.r1
            go_wp2_with fail
            refine (DV.out _).mono ?_
            rintro e w1 ⟨rfl, nn, rfl⟩
            rw [← Hq.out, ← Hr.out]
            go_wp2_with fail
            refine (whole_any _ _ _ (by omega) (by omega)).mono ?_
            rintro e w' ⟨rfl, rfl⟩
            go_wp2
            go_ret2
            refine QuoPost.mk ?_ (below_dn X.1 nn)
            rw [HQ.out]
            have hq0 : (0 : Int) ≤ (q : Int) := by omega
            simp [HB.out, HR0.out, sgn] <;> omega
    · have eq : q = 18446744073709551615 := by omega
      subst eq
      have g3 : IntKind.u64.wrap (((18446744073709551615 : Nat) : Int) + 1) = 0 := by decide
      clear hq4 ql
      rcases Bool.eq_false_or_eq_true (decide (b < 0)) with hbn | hbn
      all_goals
        have HB := hide hbn
        cases ng
        all_goals
          cases u
          all_goals
            go_enter Tryd.func75, Tryd.ntmps75
            go_wp2_with fail
            refine (wsize_any _ _ h1 h2).mono ?_
            rintro e w' ⟨rfl, rfl⟩
            have hr := X.r1
            go_wp2_with fail
            refine (DV.out _).mono ?_
            rintro e w1 ⟨rfl, nn, rfl⟩
            rw [← Hq.out, ← Hr.out]
            first
              | (go_wp2_with fail
                 refine (whole_any 18446744073709551615 _ _ (by omega) (by omega)).mono ?_
                 rintro e w' ⟨rfl, rfl⟩
                 go_wp2
                 go_ret2
                 refine QuoPost.mk ?_ (below_dn X.1 nn)
                 rw [HQ.out]
                 simp [HB.out, HR0.out, sgn]
                 done)
              | (go_wp2
                 go_ret2
                 refine QuoPost.big (x := 18446744073709551616) ?_ (by decide) (below_dn X.1 nn)
                 rw [HQ.out]
                 simp [HB.out, HR0.out, sgn]
                 done)
              | (go_wp2
                 go_ret2
                 refine QuoPost.big (x := -18446744073709551616) ?_ (by decide) (below_dn X.1 nn)
                 rw [HQ.out]
                 simp [HB.out, HR0.out, sgn]
                 done)
theorem quotient_full {v b : Int} (hb : b ≠ 0) (u : Bool) (w : World) (h1 : -9223372036854775808 ≤ b) (h2 : b ≤ 9223372036854775807) :
    Calls Tryd.prog 75 #[WN v, .int .i64 b, .bool u] w (QuoPost v b u w) := by
  by_cases h : v.natAbs / 18446744073709551616 < b.natAbs
  · exact quotient_gen hb (by omega) (by omega) rfl h u w h1 h2
  · exact quotient_big (by omega) hb u w h1 h2
set_option maxHeartbeats 1000000 in
theorem scale_full (n m d : Int) (w : World) (hd : d ≠ 0) (h1 : -9223372036854775808 ≤ n) (h2 : n ≤ 9223372036854775807) (h3 : -9223372036854775808 ≤ m) (h4 : m ≤ 9223372036854775807) (h5 : -9223372036854775808 ≤ d) (h6 : d ≤ 9223372036854775807) :
    Calls Tryd.prog 60 #[.int .i64 n, .int .i64 m, .int .i64 d] w fun e w' => e = .returned (.tuple #[.int .i64 (scLo n m d), .int .i64 (scHi n m d), .int .i64 (scE n m d)]) ∧ Below w.heap.size w w' := by
  have hd' : (d == 0) = false := by simp [hd]
  have H0 := hide hd
  clear hd
  rcases scE_cases n m d H0.out with ⟨e1, e2, e3, e4, e5⟩ | ⟨e2, e1, e4, e5⟩ | ⟨e2, e3, e1, e4, e5⟩
  · have q1 := hide (i64_yes (x := quo (n * m) d false) e2)
    have q2 := hide (i64_yes (x := quo (n * m) d true) e3)
    rw [e1, e4, e5]
    clear e1 e2 e3 e4 e5
    go_enter Tryd.func60, Tryd.ntmps60
    go_wp2_with fail
    refine (times_any n m _ h1 h2 h3 h4).mono ?_
    rintro e w1 ⟨rfl, hb⟩
    have X := ((Own.start w).to hb).alloc #[.int .u64 (((n * m).natAbs / 18446744073709551616 : Nat) : Int), .int .u64 (((n * m).natAbs % 18446744073709551616 : Nat) : Int), .bool (decide (n * m < 0))] 96
    clear hb
    have hr := X.r1
    go_wp2_with fail
    refine (quotient_full (v := n * m) H0.out false _ h5 h6).mono ?_
    rintro e w2 ⟨rfl, hb⟩
    replace X := X.to hb
    clear hb hr
    have hr := X.r1
    rw [q1.out.1, q1.out.2]
    go_wp2_with fail
    refine (quotient_full (v := n * m) H0.out true _ h5 h6).mono ?_
    rintro e w3 ⟨rfl, hb⟩
    replace X := X.to hb
    clear hb hr
    rw [q2.out.1, q2.out.2]
    go_wp2
    go_ret3
    exact ⟨rfl, X.1⟩
  · have q1 := hide (i64_no (x := quo (n * m) d false) e2)
    rw [e1, e4, e5]
    clear e1 e2 e4 e5
    go_enter Tryd.func60, Tryd.ntmps60
    go_wp2_with fail
    refine (times_any n m _ h1 h2 h3 h4).mono ?_
    rintro e w1 ⟨rfl, hb⟩
    have X := ((Own.start w).to hb).alloc #[.int .u64 (((n * m).natAbs / 18446744073709551616 : Nat) : Int), .int .u64 (((n * m).natAbs % 18446744073709551616 : Nat) : Int), .bool (decide (n * m < 0))] 96
    clear hb
    have hr := X.r1
    go_wp2_with fail
    refine (quotient_full (v := n * m) H0.out false _ h5 h6).mono ?_
    rintro e w2 ⟨rfl, hb⟩
    replace X := X.to hb
    clear hb hr
    rw [q1.out.1, q1.out.2]
    go_wp2
    go_ret3
    exact ⟨rfl, X.1⟩
  · have q1 := hide (i64_yes (x := quo (n * m) d false) e2)
    have q2 := hide (i64_no (x := quo (n * m) d true) e3)
    rw [e1, e4, e5]
    clear e1 e2 e3 e4 e5
    go_enter Tryd.func60, Tryd.ntmps60
    go_wp2_with fail
    refine (times_any n m _ h1 h2 h3 h4).mono ?_
    rintro e w1 ⟨rfl, hb⟩
    have X := ((Own.start w).to hb).alloc #[.int .u64 (((n * m).natAbs / 18446744073709551616 : Nat) : Int), .int .u64 (((n * m).natAbs % 18446744073709551616 : Nat) : Int), .bool (decide (n * m < 0))] 96
    clear hb
    have hr := X.r1
    go_wp2_with fail
    refine (quotient_full (v := n * m) H0.out false _ h5 h6).mono ?_
    rintro e w2 ⟨rfl, hb⟩
    replace X := X.to hb
    clear hb hr
    have hr := X.r1
    rw [q1.out.1, q1.out.2]
    go_wp2_with fail
    refine (quotient_full (v := n * m) H0.out true _ h5 h6).mono ?_
    rintro e w3 ⟨rfl, hb⟩
    replace X := X.to hb
    clear hb hr
    rw [q2.out.1, q2.out.2]
    go_wp2
    go_ret3
    exact ⟨rfl, X.1⟩
end Go.Proofs.YtgflgnbbkhikcaaDoor
