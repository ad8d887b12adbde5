/- Parts of one proof, joined: The program's wide quotient and Scale for any numbers (printed by gen_prod.py): what each returns; nothing that was there is turned. The rules that the walk uses of six to ten blocks of its own. Small functions of the program's surfaces: small, right, point, corners, turn, triangle, side: what each returns; nothing that was there is turned. math/bits.Add64 and Sub64 at a carry of 0: what each returns, here and now. The program's signed wide integers: placed, Valid, value, Add, Product, Floor, Ceil, Int, Of: what each returns where nothing is too great; nothing that was there is turned. The program's sums of wide numbers, words by words: sum: what it returns; nothing that was there is turned. Regions that draw their order, only read, and call functions that leave what was there as it is: one walk in the order of the text, in the class of the worlds in which the call's own blocks are whole. -/
import Derived.Test.YtlnlaopokelggaaGreatDoorPkCostsTexts5
import Derived.Test.YtlnlaopokelggaaGreatDoorPkCostsTexts2
import Derived.Test.YtlnlaopokelggaaGreatDoorPkCostsTexts3
import Derived.Deep.RegionHeld3
import Derived.Deep.RegionWith
import Derived.Deep.QuietTactic
import Derived.BigQuiet
import Derived.Shelf.Spec.BitsCarry
namespace Go.Proofs.YtlnlaopokelggaaGreatDoor
open Go.RowKit

theorem QuoPost.big {v b : Int} {u : Bool} {w w' : World} {x : Int} (h : quo v b u = x) (hx : i64B x = false) (hb : Below w.heap.size w w') : QuoPost v b u w (.returned (.tuple #[.int .i64 0, .int .i64 5])) w' := by
  subst h
  refine ⟨?_, hb⟩
  rw [(i64_no hx).1, (i64_no hx).2]
theorem quo_lt {m h l b q : Nat} (hm : m = h * 18446744073709551616 + l) (hl : l < 18446744073709551616) (hh : h < b) (hq : q = m / b) : q < 18446744073709551616 := by
  rw [hq]
  refine (Nat.div_lt_iff_lt_mul (by omega)).2 ?_
  have : (h + 1) * 18446744073709551616 ≤ b * 18446744073709551616 := Nat.mul_le_mul_right _ hh
  omega
set_option maxRecDepth 100000 in
set_option maxHeartbeats 4000000 in
theorem quotient_gen {v b : Int} {h l : Nat} {ng : Bool} (hb : b ≠ 0) (hm : v.natAbs = h * 18446744073709551616 + l) (hl : l < 18446744073709551616) (hn : decide (v < 0) = ng) (hh : h < b.natAbs) (u : Bool) (w : World) (h1 : -9223372036854775808 ≤ b) (h2 : b ≤ 9223372036854775807) :
    Calls Tryz.prog 54 #[.agg #[.int .u64 (h : Int), .int .u64 (l : Int), .bool ng], .int .i64 b, .bool u] w (QuoPost v b u w) := by
  obtain ⟨q, r, hq, hr, hq2, hqm, HQ⟩ := quo_parts hb hm hn u
  replace HQ := hide HQ
  have ql := quo_lt rfl hl hh hq
  have Hq := hide hq
  have Hr := hide hr
  have d1 : ¬ ((h : Int) ≥ (b.natAbs : Int)) := by omega
  have d2 : b.natAbs < 18446744073709551616 := by omega
  have d3 : decide ((b.natAbs : Int) ≤ (h : Int)) = false := decide_eq_false (by omega)
  have d4 : decide (b.natAbs ≤ h) = false := decide_eq_false (by omega)
  have DV := hide (fun W => div64_any h l b.natAbs hh hl d2 W)
  have X := (Own.start w).alloc #[.int .u64 (h : Int), .int .u64 (l : Int), .bool ng] 105
  clear hq hr hm hn hb hq2 hqm hl
  by_cases hr0 : r = 0
  · have HR0 := hide hr0
    have g1 : decide (0 < r) = false := by simp; omega
    clear hr0
    rcases Bool.eq_false_or_eq_true (decide (b < 0)) with hbn | hbn
    all_goals
      have HB := hide hbn
      cases ng
      all_goals
        go_enter Tryz.func54, Tryz.ntmps54
        go_wp2_with fail
        refine (wsize_any _ _ h1 h2).mono ?_
        rintro e w' ⟨rfl, rfl⟩
        have hr := X.r1
        go_wp2_with fail
        refine (DV.out _).mono ?_
        rintro e w1 ⟨rfl, nn, rfl⟩
        rw [← Hq.out, ← Hr.out]
        go_wp2_with fail
        refine (whole_any _ _ _ (by omega) (by omega)).mono ?_
        rintro e w' ⟨rfl, rfl⟩
        go_wp2
        go_ret2
        refine QuoPost.mk ?_ (below_dn X.1 nn)
        rw [HQ.out, HR0.out]
        have hq0 : (0 : Int) ≤ (q : Int) := by omega
        simp [HB.out, sgn] <;> omega
  · have HR0 := hide hr0
    have g1 : decide (0 < r) = true := by simp; omega
    clear hr0
    by_cases hq4 : q + 1 < 18446744073709551616
    · have g2 : ((q : Int) + 1 == 0) = false := by simp; omega
      have g3 : IntKind.u64.wrap ((q : Int) + 1) = (q : Int) + 1 := by rw [IntKind.wrap_u64]; omega
      rcases Bool.eq_false_or_eq_true (decide (b < 0)) with hbn | hbn
      all_goals
        have HB := hide hbn
        cases ng
        all_goals
          cases u
          all_goals
            go_enter Tryz.func54, Tryz.ntmps54
            go_wp2_with fail
            refine (wsize_any _ _ h1 h2).mono ?_
            rintro e w' ⟨rfl, rfl⟩
            have hr := X.r1
            go_wp2_with fail
            refine (DV.out _).mono ?_
            rintro e w1 ⟨rfl, nn, rfl⟩
            rw [← Hq.out, ← Hr.out]
            go_wp2_with fail
            refine (whole_any _ _ _ (by omega) (by omega)).mono ?_
            rintro e w' ⟨rfl, rfl⟩
            go_wp2
            go_ret2
            refine QuoPost.mk ?_ (below_dn X.1 nn)
            rw [HQ.out]
            have hq0 : (0 : Int) ≤ (q : Int) := by omega
            simp [HB.out, HR0.out, sgn] <;> omega
    · have eq : q = 18446744073709551615 := by omega
      subst eq
      have g3 : IntKind.u64.wrap (((18446744073709551615 : Nat) : Int) + 1) = 0 := by decide
      clear hq4 ql
      rcases Bool.eq_false_or_eq_true (decide (b < 0)) with hbn | hbn
      all_goals
        have HB := hide hbn
        cases ng
        all_goals
          cases u
          all_goals
            go_enter Tryz.func54, Tryz.ntmps54
            go_wp2_with fail
            refine (wsize_any _ _ h1 h2).mono ?_
            rintro e w' ⟨rfl, rfl⟩
            have hr := X.r1
            go_wp2_with fail
            refine (DV.out _).mono ?_
            rintro e w1 ⟨rfl, nn, rfl⟩
            rw [← Hq.out, ← Hr.out]
            first
              | (go_wp2_with fail
                 refine (whole_any 18446744073709551615 _ _ (by omega) (by omega)).mono ?_
                 rintro e w' ⟨rfl, rfl⟩
                 go_wp2
                 go_ret2
                 refine QuoPost.mk ?_ (below_dn X.1 nn)
                 rw [HQ.out]
                 simp [HB.out, HR0.out, sgn]
                 done)
              | (go_wp2
                 go_ret2
                 refine QuoPost.big (x := 18446744073709551616) ?_ (by decide) (below_dn X.1 nn)
                 rw [HQ.out]
                 simp [HB.out, HR0.out, sgn]
                 done)
              | (go_wp2
                 go_ret2
                 refine QuoPost.big (x := -18446744073709551616) ?_ (by decide) (below_dn X.1 nn)
                 rw [HQ.out]
                 simp [HB.out, HR0.out, sgn]
                 done)
theorem quotient_full {v b : Int} (hb : b ≠ 0) (u : Bool) (w : World) (h1 : -9223372036854775808 ≤ b) (h2 : b ≤ 9223372036854775807) :
    Calls Tryz.prog 54 #[WN v, .int .i64 b, .bool u] w (QuoPost v b u w) := by
  by_cases h : v.natAbs / 18446744073709551616 < b.natAbs
  · exact quotient_gen hb (by omega) (by omega) rfl h u w h1 h2
  · exact quotient_big (by omega) hb u w h1 h2
set_option maxHeartbeats 1000000 in
theorem scale_full (n m d : Int) (w : World) (hd : d ≠ 0) (h1 : -9223372036854775808 ≤ n) (h2 : n ≤ 9223372036854775807) (h3 : -9223372036854775808 ≤ m) (h4 : m ≤ 9223372036854775807) (h5 : -9223372036854775808 ≤ d) (h6 : d ≤ 9223372036854775807) :
    Calls Tryz.prog 31 #[.int .i64 n, .int .i64 m, .int .i64 d] w fun e w' => e = .returned (.tuple #[.int .i64 (scLo n m d), .int .i64 (scHi n m d), .int .i64 (scE n m d)]) ∧ Below w.heap.size w w' := by
  have hd' : (d == 0) = false := by simp [hd]
  have H0 := hide hd
  clear hd
  rcases scE_cases n m d H0.out with ⟨e1, e2, e3, e4, e5⟩ | ⟨e2, e1, e4, e5⟩ | ⟨e2, e3, e1, e4, e5⟩
  · have q1 := hide (i64_yes (x := quo (n * m) d false) e2)
    have q2 := hide (i64_yes (x := quo (n * m) d true) e3)
    rw [e1, e4, e5]
    clear e1 e2 e3 e4 e5
    go_enter Tryz.func31, Tryz.ntmps31
    go_wp2_with fail
    refine (times_any n m _ h1 h2 h3 h4).mono ?_
    rintro e w1 ⟨rfl, hb⟩
    have X := ((Own.start w).to hb).alloc #[.int .u64 (((n * m).natAbs / 18446744073709551616 : Nat) : Int), .int .u64 (((n * m).natAbs % 18446744073709551616 : Nat) : Int), .bool (decide (n * m < 0))] 105
    clear hb
    have hr := X.r1
    go_wp2_with fail
    refine (quotient_full (v := n * m) H0.out false _ h5 h6).mono ?_
    rintro e w2 ⟨rfl, hb⟩
    replace X := X.to hb
    clear hb hr
    have hr := X.r1
    rw [q1.out.1, q1.out.2]
    go_wp2_with fail
    refine (quotient_full (v := n * m) H0.out true _ h5 h6).mono ?_
    rintro e w3 ⟨rfl, hb⟩
    replace X := X.to hb
    clear hb hr
    rw [q2.out.1, q2.out.2]
    go_wp2
    go_ret3
    exact ⟨rfl, X.1⟩
  · have q1 := hide (i64_no (x := quo (n * m) d false) e2)
    rw [e1, e4, e5]
    clear e1 e2 e4 e5
    go_enter Tryz.func31, Tryz.ntmps31
    go_wp2_with fail
    refine (times_any n m _ h1 h2 h3 h4).mono ?_
    rintro e w1 ⟨rfl, hb⟩
    have X := ((Own.start w).to hb).alloc #[.int .u64 (((n * m).natAbs / 18446744073709551616 : Nat) : Int), .int .u64 (((n * m).natAbs % 18446744073709551616 : Nat) : Int), .bool (decide (n * m < 0))] 105
    clear hb
    have hr := X.r1
    go_wp2_with fail
    refine (quotient_full (v := n * m) H0.out false _ h5 h6).mono ?_
    rintro e w2 ⟨rfl, hb⟩
    replace X := X.to hb
    clear hb hr
    rw [q1.out.1, q1.out.2]
    go_wp2
    go_ret3
    exact ⟨rfl, X.1⟩
  · have q1 := hide (i64_yes (x := quo (n * m) d false) e2)
    have q2 := hide (i64_no (x := quo (n * m) d true) e3)
    rw [e1, e4, e5]
    clear e1 e2 e3 e4 e5
    go_enter Tryz.func31, Tryz.ntmps31
    go_wp2_with fail
    refine (times_any n m _ h1 h2 h3 h4).mono ?_
    rintro e w1 ⟨rfl, hb⟩
    have X := ((Own.start w).to hb).alloc #[.int .u64 (((n * m).natAbs / 18446744073709551616 : Nat) : Int), .int .u64 (((n * m).natAbs % 18446744073709551616 : Nat) : Int), .bool (decide (n * m < 0))] 105
    clear hb
    have hr := X.r1
    go_wp2_with fail
    refine (quotient_full (v := n * m) H0.out false _ h5 h6).mono ?_
    rintro e w2 ⟨rfl, hb⟩
    replace X := X.to hb
    clear hb hr
    have hr := X.r1
    rw [q1.out.1, q1.out.2]
    go_wp2_with fail
    refine (quotient_full (v := n * m) H0.out true _ h5 h6).mono ?_
    rintro e w3 ⟨rfl, hb⟩
    replace X := X.to hb
    clear hb hr
    rw [q2.out.1, q2.out.2]
    go_wp2
    go_ret3
    exact ⟨rfl, X.1⟩
end Go.Proofs.YtlnlaopokelggaaGreatDoor

namespace Go.Proofs.YtlnlaopokelggaaGreatDoor

theorem Own.r6 {w W : World} {b0 b1 b2 b3 b4 b5 : Nat} {t0 t1 t2 t3 t4 t5 : TypeId} {c0 c1 c2 c3 c4 c5 : Array Value} {L} (h : Own w W ((b0, t0, c0) :: (b1, t1, c1) :: (b2, t2, c2) :: (b3, t3, c3) :: (b4, t4, c4) :: (b5, t5, c5) :: L)) :
    ((∀ i, W.cell? ⟨b0, i, none⟩ = c0[i]?) ∧ (∀ i, W.frozen? ⟨b0, i, none⟩ = false) ∧ b0 < W.heap.size) ∧
    ((∀ i, W.cell? ⟨b1, i, none⟩ = c1[i]?) ∧ (∀ i, W.frozen? ⟨b1, i, none⟩ = false) ∧ b1 < W.heap.size) ∧
    ((∀ i, W.cell? ⟨b2, i, none⟩ = c2[i]?) ∧ (∀ i, W.frozen? ⟨b2, i, none⟩ = false) ∧ b2 < W.heap.size) ∧
    ((∀ i, W.cell? ⟨b3, i, none⟩ = c3[i]?) ∧ (∀ i, W.frozen? ⟨b3, i, none⟩ = false) ∧ b3 < W.heap.size) ∧
    ((∀ i, W.cell? ⟨b4, i, none⟩ = c4[i]?) ∧ (∀ i, W.frozen? ⟨b4, i, none⟩ = false) ∧ b4 < W.heap.size) ∧
    ((∀ i, W.cell? ⟨b5, i, none⟩ = c5[i]?) ∧ (∀ i, W.frozen? ⟨b5, i, none⟩ = false) ∧ b5 < W.heap.size) := ⟨h.r1, h.tail.r5⟩
theorem Own.r7 {w W : World} {b0 b1 b2 b3 b4 b5 b6 : Nat} {t0 t1 t2 t3 t4 t5 t6 : TypeId} {c0 c1 c2 c3 c4 c5 c6 : Array Value} {L} (h : Own w W ((b0, t0, c0) :: (b1, t1, c1) :: (b2, t2, c2) :: (b3, t3, c3) :: (b4, t4, c4) :: (b5, t5, c5) :: (b6, t6, c6) :: L)) :
    ((∀ i, W.cell? ⟨b0, i, none⟩ = c0[i]?) ∧ (∀ i, W.frozen? ⟨b0, i, none⟩ = false) ∧ b0 < W.heap.size) ∧
    ((∀ i, W.cell? ⟨b1, i, none⟩ = c1[i]?) ∧ (∀ i, W.frozen? ⟨b1, i, none⟩ = false) ∧ b1 < W.heap.size) ∧
    ((∀ i, W.cell? ⟨b2, i, none⟩ = c2[i]?) ∧ (∀ i, W.frozen? ⟨b2, i, none⟩ = false) ∧ b2 < W.heap.size) ∧
    ((∀ i, W.cell? ⟨b3, i, none⟩ = c3[i]?) ∧ (∀ i, W.frozen? ⟨b3, i, none⟩ = false) ∧ b3 < W.heap.size) ∧
    ((∀ i, W.cell? ⟨b4, i, none⟩ = c4[i]?) ∧ (∀ i, W.frozen? ⟨b4, i, none⟩ = false) ∧ b4 < W.heap.size) ∧
    ((∀ i, W.cell? ⟨b5, i, none⟩ = c5[i]?) ∧ (∀ i, W.frozen? ⟨b5, i, none⟩ = false) ∧ b5 < W.heap.size) ∧
    ((∀ i, W.cell? ⟨b6, i, none⟩ = c6[i]?) ∧ (∀ i, W.frozen? ⟨b6, i, none⟩ = false) ∧ b6 < W.heap.size) := ⟨h.r1, h.tail.r6⟩
theorem Own.r8 {w W : World} {b0 b1 b2 b3 b4 b5 b6 b7 : Nat} {t0 t1 t2 t3 t4 t5 t6 t7 : TypeId} {c0 c1 c2 c3 c4 c5 c6 c7 : Array Value} {L} (h : Own w W ((b0, t0, c0) :: (b1, t1, c1) :: (b2, t2, c2) :: (b3, t3, c3) :: (b4, t4, c4) :: (b5, t5, c5) :: (b6, t6, c6) :: (b7, t7, c7) :: L)) :
    ((∀ i, W.cell? ⟨b0, i, none⟩ = c0[i]?) ∧ (∀ i, W.frozen? ⟨b0, i, none⟩ = false) ∧ b0 < W.heap.size) ∧
    ((∀ i, W.cell? ⟨b1, i, none⟩ = c1[i]?) ∧ (∀ i, W.frozen? ⟨b1, i, none⟩ = false) ∧ b1 < W.heap.size) ∧
    ((∀ i, W.cell? ⟨b2, i, none⟩ = c2[i]?) ∧ (∀ i, W.frozen? ⟨b2, i, none⟩ = false) ∧ b2 < W.heap.size) ∧
    ((∀ i, W.cell? ⟨b3, i, none⟩ = c3[i]?) ∧ (∀ i, W.frozen? ⟨b3, i, none⟩ = false) ∧ b3 < W.heap.size) ∧
    ((∀ i, W.cell? ⟨b4, i, none⟩ = c4[i]?) ∧ (∀ i, W.frozen? ⟨b4, i, none⟩ = false) ∧ b4 < W.heap.size) ∧
    ((∀ i, W.cell? ⟨b5, i, none⟩ = c5[i]?) ∧ (∀ i, W.frozen? ⟨b5, i, none⟩ = false) ∧ b5 < W.heap.size) ∧
    ((∀ i, W.cell? ⟨b6, i, none⟩ = c6[i]?) ∧ (∀ i, W.frozen? ⟨b6, i, none⟩ = false) ∧ b6 < W.heap.size) ∧
    ((∀ i, W.cell? ⟨b7, i, none⟩ = c7[i]?) ∧ (∀ i, W.frozen? ⟨b7, i, none⟩ = false) ∧ b7 < W.heap.size) := ⟨h.r1, h.tail.r7⟩
theorem Own.r9 {w W : World} {b0 b1 b2 b3 b4 b5 b6 b7 b8 : Nat} {t0 t1 t2 t3 t4 t5 t6 t7 t8 : TypeId} {c0 c1 c2 c3 c4 c5 c6 c7 c8 : Array Value} {L} (h : Own w W ((b0, t0, c0) :: (b1, t1, c1) :: (b2, t2, c2) :: (b3, t3, c3) :: (b4, t4, c4) :: (b5, t5, c5) :: (b6, t6, c6) :: (b7, t7, c7) :: (b8, t8, c8) :: L)) :
    ((∀ i, W.cell? ⟨b0, i, none⟩ = c0[i]?) ∧ (∀ i, W.frozen? ⟨b0, i, none⟩ = false) ∧ b0 < W.heap.size) ∧
    ((∀ i, W.cell? ⟨b1, i, none⟩ = c1[i]?) ∧ (∀ i, W.frozen? ⟨b1, i, none⟩ = false) ∧ b1 < W.heap.size) ∧
    ((∀ i, W.cell? ⟨b2, i, none⟩ = c2[i]?) ∧ (∀ i, W.frozen? ⟨b2, i, none⟩ = false) ∧ b2 < W.heap.size) ∧
    ((∀ i, W.cell? ⟨b3, i, none⟩ = c3[i]?) ∧ (∀ i, W.frozen? ⟨b3, i, none⟩ = false) ∧ b3 < W.heap.size) ∧
    ((∀ i, W.cell? ⟨b4, i, none⟩ = c4[i]?) ∧ (∀ i, W.frozen? ⟨b4, i, none⟩ = false) ∧ b4 < W.heap.size) ∧
    ((∀ i, W.cell? ⟨b5, i, none⟩ = c5[i]?) ∧ (∀ i, W.frozen? ⟨b5, i, none⟩ = false) ∧ b5 < W.heap.size) ∧
    ((∀ i, W.cell? ⟨b6, i, none⟩ = c6[i]?) ∧ (∀ i, W.frozen? ⟨b6, i, none⟩ = false) ∧ b6 < W.heap.size) ∧
    ((∀ i, W.cell? ⟨b7, i, none⟩ = c7[i]?) ∧ (∀ i, W.frozen? ⟨b7, i, none⟩ = false) ∧ b7 < W.heap.size) ∧
    ((∀ i, W.cell? ⟨b8, i, none⟩ = c8[i]?) ∧ (∀ i, W.frozen? ⟨b8, i, none⟩ = false) ∧ b8 < W.heap.size) := ⟨h.r1, h.tail.r8⟩
theorem Own.r10 {w W : World} {b0 b1 b2 b3 b4 b5 b6 b7 b8 b9 : Nat} {t0 t1 t2 t3 t4 t5 t6 t7 t8 t9 : TypeId} {c0 c1 c2 c3 c4 c5 c6 c7 c8 c9 : Array Value} {L} (h : Own w W ((b0, t0, c0) :: (b1, t1, c1) :: (b2, t2, c2) :: (b3, t3, c3) :: (b4, t4, c4) :: (b5, t5, c5) :: (b6, t6, c6) :: (b7, t7, c7) :: (b8, t8, c8) :: (b9, t9, c9) :: L)) :
    ((∀ i, W.cell? ⟨b0, i, none⟩ = c0[i]?) ∧ (∀ i, W.frozen? ⟨b0, i, none⟩ = false) ∧ b0 < W.heap.size) ∧
    ((∀ i, W.cell? ⟨b1, i, none⟩ = c1[i]?) ∧ (∀ i, W.frozen? ⟨b1, i, none⟩ = false) ∧ b1 < W.heap.size) ∧
    ((∀ i, W.cell? ⟨b2, i, none⟩ = c2[i]?) ∧ (∀ i, W.frozen? ⟨b2, i, none⟩ = false) ∧ b2 < W.heap.size) ∧
    ((∀ i, W.cell? ⟨b3, i, none⟩ = c3[i]?) ∧ (∀ i, W.frozen? ⟨b3, i, none⟩ = false) ∧ b3 < W.heap.size) ∧
    ((∀ i, W.cell? ⟨b4, i, none⟩ = c4[i]?) ∧ (∀ i, W.frozen? ⟨b4, i, none⟩ = false) ∧ b4 < W.heap.size) ∧
    ((∀ i, W.cell? ⟨b5, i, none⟩ = c5[i]?) ∧ (∀ i, W.frozen? ⟨b5, i, none⟩ = false) ∧ b5 < W.heap.size) ∧
    ((∀ i, W.cell? ⟨b6, i, none⟩ = c6[i]?) ∧ (∀ i, W.frozen? ⟨b6, i, none⟩ = false) ∧ b6 < W.heap.size) ∧
    ((∀ i, W.cell? ⟨b7, i, none⟩ = c7[i]?) ∧ (∀ i, W.frozen? ⟨b7, i, none⟩ = false) ∧ b7 < W.heap.size) ∧
    ((∀ i, W.cell? ⟨b8, i, none⟩ = c8[i]?) ∧ (∀ i, W.frozen? ⟨b8, i, none⟩ = false) ∧ b8 < W.heap.size) ∧
    ((∀ i, W.cell? ⟨b9, i, none⟩ = c9[i]?) ∧ (∀ i, W.frozen? ⟨b9, i, none⟩ = false) ∧ b9 < W.heap.size) := ⟨h.r1, h.tail.r9⟩
end Go.Proofs.YtlnlaopokelggaaGreatDoor

namespace Go.Proofs.YtlnlaopokelggaaGreatDoor
open Go Go.RowKit

theorem cell_set2 {W : World} {b h : Nat} (hn : ¬ h = b) (u v : Value) (i : Nat) : ((W.setCell ⟨b, 0, none⟩ u).setCell ⟨b, 1, none⟩ v).drew.cell? ⟨h, i, none⟩ = W.cell? ⟨h, i, none⟩ :=
  World.cell?_of_block ((Below.heap_setCell (W.setCell ⟨b, 0, none⟩ u) ⟨b, 1, none⟩ v h hn).trans (Below.heap_setCell W ⟨b, 0, none⟩ u h hn))
def RetW (v : Value) (w : World) (e : Ending) (w' : World) : Prop := e = .returned v ∧ Below w.heap.size w w'
set_option maxHeartbeats 1000000 in
theorem mssmall_any (m : Msh) (a : MshA) (w : World) : Calls Tryz.prog 85 #[m.val a] w (RetW (.bool (smB m)) w) := by
  have X := (Own.start w).alloc (m.cells a) 52
  have hr := X.r1
  have E : Hid (smB m = (decide (m.ss.length ≤ 2000) && decide (m.fs.length ≤ 4000))) := hide rfl
  by_cases h1 : m.ss.length ≤ 2000 <;> by_cases h2 : m.fs.length ≤ 4000
  all_goals
    go_enter Tryz.func85, Tryz.ntmps85
    go_wp2
    go_ret
    exact ⟨ret_bool (by rw [E.out]; simp [h1, h2]; try omega), X.1⟩
set_option maxHeartbeats 1000000 in
theorem plvalid_any (p : Pnt) (w : World) : Calls Tryz.prog 37 #[p.val] w (RetW (.bool (inP p)) w) := by
  have X := (Own.start w).alloc #[.int .i64 p.x, .int .i64 p.y] 55
  have hr := X.r1
  have E : Hid (inP p = (decide (-16777216 ≤ p.x) && decide (p.x ≤ 16777216) && decide (-16777216 ≤ p.y) && decide (p.y ≤ 16777216))) := hide rfl
  have ways : decide (-16777216 ≤ p.x) = false ∨ (decide (-16777216 ≤ p.x) = true ∧ decide (p.x ≤ 16777216) = false) ∨ (decide (-16777216 ≤ p.x) = true ∧ decide (p.x ≤ 16777216) = true ∧ decide (-16777216 ≤ p.y) = false) ∨
      (decide (-16777216 ≤ p.x) = true ∧ decide (p.x ≤ 16777216) = true ∧ decide (-16777216 ≤ p.y) = true) := by
    cases decide (-16777216 ≤ p.x) <;> cases decide (p.x ≤ 16777216) <;> cases decide (-16777216 ≤ p.y) <;> simp
  rcases ways with q1 | ⟨q1, q2⟩ | ⟨q1, q2, q3⟩ | ⟨q1, q2, q3⟩
  all_goals
    go_enter Tryz.func37, Tryz.ntmps37
    go_wp2
    go_ret
    exact ⟨ret_bool (by rw [E.out]; simp [*]), X.1⟩
set_option maxHeartbeats 1000000 in
theorem msright_any (s : Spt) (w : World) : Calls Tryz.prog 86 #[s.val] w (RetW (.bool (okS s)) w) := by
  have X := (Own.start w).alloc #[.int .i64 s.x, .int .i64 s.y, .int .i64 s.z] 46
  have hr := X.r1
  have PV := hide (fun W => plvalid_any ⟨s.x, s.y⟩ W)
  have E : Hid (okS s = (inP ⟨s.x, s.y⟩ && decide (-4194304 ≤ s.z) && decide (s.z ≤ 4194304))) := hide rfl
  generalize inP ⟨s.x, s.y⟩ = b at *
  have ways : b = false ∨ (b = true ∧ decide (-4194304 ≤ s.z) = false) ∨ (b = true ∧ decide (-4194304 ≤ s.z) = true) := by
    cases b <;> cases decide (-4194304 ≤ s.z) <;> simp
  rcases ways with rfl | ⟨rfl, q2⟩ | ⟨rfl, q2⟩
  all_goals
    go_enter Tryz.func86, Tryz.ntmps86
    go_wp2_with fail
    refine (PV.out _).mono ?_
    rintro e w1 ⟨rfl, hb⟩
    replace X := X.to hb
    clear hr hb
    have hr := X.r1
    go_wp2
    go_ret
    exact ⟨ret_bool (by rw [E.out]; simp [*]), X.1⟩
set_option maxRecDepth 100000 in
set_option maxHeartbeats 2000000 in
theorem mspoint_any (m : Msh) (a : MshA) (i : Int) (w : World) (hm : MshSl w m a) (h0 : 0 ≤ i) (h1 : i < m.ss.length) : Calls Tryz.prog 87 #[m.val a, .int .i64 i] w (RetW (spA m.ss i).pt.val w) := by
  obtain ⟨k, rfl⟩ : ∃ k : Nat, i = (k : Int) := ⟨i.toNat, by omega⟩
  have hk : k < m.ss.length := by omega
  obtain ⟨A1, c1, A2, c2⟩ := a
  have hlen : m.ss.length ≤ 9223372036854775807 := hm.1.1.1
  obtain ⟨b, off, e, hbl, hat⟩ := hm.1.2 (by omega)
  have e' : A1 = some ⟨b, off, none⟩ := e
  subst e'
  obtain ⟨c0, d0, _⟩ := hat k hk
  have eS : spA m.ss (k : Int) = m.ss[k] := by simp [spA, hk]
  rw [eS]
  have X := ((Own.start w).alloc #[.slice (some ⟨b, off, none⟩) m.ss.length c1, .slice A2 m.fs.length c2] 52).alloc #[.int .i64 0, .int .i64 0] 55
  rw [World.size_alloc] at X
  have hr := X.r2
  have XB := hide X.1
  have g0 : (0 : Int) ≤ (k : Int) := by omega
  have g1 : (k : Int) < (m.ss.length : Int) := by omega
  have n1 : ¬ (w.heap.size = w.heap.size + 1) := by omega
  have n2 : ¬ (b = w.heap.size + 1) := by omega
  have n3 : ¬ (b = w.heap.size) := by omega
  clear hat X hm eS
  generalize m.ss[k] = s at *
  show Calls _ _ _ _ (RetW (.agg #[.int .i64 s.x, .int .i64 s.y]) w)
  go_enter Tryz.func87, Tryz.ntmps87
  go_wp2
  go_region_held3 (fun w' => w'.cell? ⟨w.heap.size, 0, none⟩ = some (.slice (some ⟨b, off, none⟩) m.ss.length c1) ∧ w'.cell? ⟨b, off + k * 3, none⟩ = some (.int .i64 s.x) ∧ w'.cell? ⟨b, off + k * 3 + 1, none⟩ = some (.int .i64 s.y)) (go_keep) (fail)
  go_wp2
  exact bodyPost_ret (v := .agg #[.int .i64 s.x, .int .i64 s.y]) (by simp [results, Tryz.results87, go_sem]) rfl ⟨rfl, by have HX := XB.out; have hz := HX.size; go_grown⟩
set_option maxHeartbeats 1000000 in
theorem mscorners_any (f : Fce) (w : World) : Calls Tryz.prog 88 #[f.val] w (RetW (.agg #[.int .i64 f.a, .int .i64 f.b, .int .i64 f.c]) w) := by
  have X := ((Own.start w).alloc #[.int .i64 f.a, .int .i64 f.b, .int .i64 f.c, .int .i64 f.k] 49).alloc #[.int .i64 0, .int .i64 0, .int .i64 0] 143
  rw [World.size_alloc] at X
  have hr := X.r2
  have XB := hide X.1
  go_enter Tryz.func88, Tryz.ntmps88
  go_wp2
  exact bodyPost_ret (v := .agg #[.int .i64 f.a, .int .i64 f.b, .int .i64 f.c]) (by simp [results, Tryz.results88, go_sem]) rfl ⟨rfl, by have HX := XB.out; have hz := HX.size; go_grown⟩
set_option maxHeartbeats 1000000 in
theorem msturn_any (a b c : Pnt) (w : World) (ha : a.in) (hb : b.in) (hc : c.in) : Calls Tryz.prog 92 #[a.val, b.val, c.val] w (RetW (.int .i64 (trn a b c)) w) := by
  have X := (((Own.start w).alloc #[.int .i64 a.x, .int .i64 a.y] 55).alloc #[.int .i64 b.x, .int .i64 b.y] 55).alloc #[.int .i64 c.x, .int .i64 c.y] 55
  simp only [World.size_alloc] at X
  have hr := X.r3
  have XB := hide X.1
  obtain ⟨m1, m2⟩ := trn_bd ha hb hc
  obtain ⟨⟨a1, a2⟩, a3, a4⟩ := ha
  obtain ⟨⟨b1, b2⟩, b3, b4⟩ := hb
  obtain ⟨⟨c1, c2⟩, c3, c4⟩ := hc
  have E : Hid (trn a b c = (b.x - a.x) * (c.y - a.y) - (b.y - a.y) * (c.x - a.x)) := hide rfl
  generalize trn a b c = t at *
  have e1 := IntWalk.i64_in (b.x - a.x) (by omega)
  have e2 := IntWalk.i64_in (c.y - a.y) (by omega)
  have e3 := IntWalk.i64_in (b.y - a.y) (by omega)
  have e4 := IntWalk.i64_in (c.x - a.x) (by omega)
  obtain ⟨p, hp⟩ : ∃ p, p = (b.x - a.x) * (c.y - a.y) := ⟨_, rfl⟩
  obtain ⟨q, hq⟩ : ∃ q, q = (b.y - a.y) * (c.x - a.x) := ⟨_, rfl⟩
  rw [← hp, ← hq] at E
  rw [← hp] at m1
  rw [← hq] at m2
  have w1 : IntKind.i64.wrap ((b.x - a.x) * (c.y - a.y)) = p := by rw [← hp]; exact IntWalk.i64_in _ (by omega)
  have w2 : IntKind.i64.wrap ((b.y - a.y) * (c.x - a.x)) = q := by rw [← hq]; exact IntWalk.i64_in _ (by omega)
  have w3 := IntWalk.i64_in (p - q) (by omega)
  clear hp hq X
  go_enter Tryz.func92, Tryz.ntmps92
  go_wp2
  go_ret
  exact ⟨by rw [E.out]; rfl, XB.out⟩
set_option maxRecDepth 100000 in
set_option maxHeartbeats 2000000 in
/-- a side: its number from 0 to 2 -/
theorem msside_any (f : Fce) (k : Nat) (w : World) (hk : k < 3) : Calls Tryz.prog 93 #[f.val, .int .i64 k] w (RetW (.agg #[.int .i64 (sdA f k).1, .int .i64 (sdA f k).2]) w) := by
  have X := ((Own.start w).alloc #[.int .i64 f.a, .int .i64 f.b, .int .i64 f.c, .int .i64 f.k] 49).alloc #[.int .i64 0, .int .i64 0] 150
  rw [World.size_alloc] at X
  have hr := X.r2
  have CN := hide (fun W => mscorners_any f W)
  obtain rfl | rfl | rfl : k = 0 ∨ k = 1 ∨ k = 2 := by omega
  · clear hk
    show Calls _ _ #[f.val, .int .i64 0] w (RetW (.agg #[.int .i64 f.a, .int .i64 f.b]) w)
    go_enter Tryz.func93, Tryz.ntmps93
    go_wp2_with fail
    refine (CN.out _).mono ?_
    rintro e w1 ⟨rfl, hb⟩
    have n0 : w.heap.size + 1 < w1.heap.size := by have hz := hb.size; simp at hz; omega
    replace X := (X.to hb).alloc #[.int .i64 f.a, .int .i64 f.b, .int .i64 f.c] 143
    clear hr hb
    have XB := hide X.1
    have n1 : ¬ (w1.heap.size = w.heap.size + 1) := by omega
    have s1 : IntKind.i64.wrap 1 = 1 := by decide
    have s2 : (1 : Int).tmod 3 = 1 := by decide
    go_wp2
    generalize w1.alloc (.cells #[.int .i64 f.a, .int .i64 f.b, .int .i64 f.c] 143) = W at *
    have hr := X.r3
    have KP : ∀ u v : Value, ((W.setCell ⟨w.heap.size + 1, 0, none⟩ u).setCell ⟨w.heap.size + 1, 1, none⟩ v).drew.cell? ⟨w1.heap.size, 0, none⟩ = some (.int .i64 f.a) ∧ ((W.setCell ⟨w.heap.size + 1, 0, none⟩ u).setCell ⟨w.heap.size + 1, 1, none⟩ v).drew.cell? ⟨w1.heap.size, 1, none⟩ = some (.int .i64 f.b) ∧
        ((W.setCell ⟨w.heap.size + 1, 0, none⟩ u).setCell ⟨w.heap.size + 1, 1, none⟩ v).drew.cell? ⟨w1.heap.size, 2, none⟩ = some (.int .i64 f.c) := fun u v => ⟨(cell_set2 n1 _ _ _).trans (hr.1.1 0), (cell_set2 n1 _ _ _).trans (hr.1.1 1), (cell_set2 n1 _ _ _).trans (hr.1.1 2)⟩
    clear X
    go_region_held3 (fun w' => w'.cell? ⟨w1.heap.size, 0, none⟩ = some (.int .i64 f.a) ∧ w'.cell? ⟨w1.heap.size, 1, none⟩ = some (.int .i64 f.b) ∧ w'.cell? ⟨w1.heap.size, 2, none⟩ = some (.int .i64 f.c)) (first | go_keep | exact KP _ _) (fail)
    go_wp2
    exact bodyPost_ret (v := .agg #[.int .i64 f.a, .int .i64 f.b]) (by simp [results, Tryz.results93, hr, go_sem]) rfl ⟨rfl, by have HX := XB.out; have hz := HX.size; go_grown⟩
  · clear hk
    show Calls _ _ #[f.val, .int .i64 1] w (RetW (.agg #[.int .i64 f.b, .int .i64 f.c]) w)
    go_enter Tryz.func93, Tryz.ntmps93
    go_wp2_with fail
    refine (CN.out _).mono ?_
    rintro e w1 ⟨rfl, hb⟩
    have n0 : w.heap.size + 1 < w1.heap.size := by have hz := hb.size; simp at hz; omega
    replace X := (X.to hb).alloc #[.int .i64 f.a, .int .i64 f.b, .int .i64 f.c] 143
    clear hr hb
    have XB := hide X.1
    have n1 : ¬ (w1.heap.size = w.heap.size + 1) := by omega
    have s1 : IntKind.i64.wrap 2 = 2 := by decide
    have s2 : (2 : Int).tmod 3 = 2 := by decide
    go_wp2
    generalize w1.alloc (.cells #[.int .i64 f.a, .int .i64 f.b, .int .i64 f.c] 143) = W at *
    have hr := X.r3
    have KP : ∀ u v : Value, ((W.setCell ⟨w.heap.size + 1, 0, none⟩ u).setCell ⟨w.heap.size + 1, 1, none⟩ v).drew.cell? ⟨w1.heap.size, 0, none⟩ = some (.int .i64 f.a) ∧ ((W.setCell ⟨w.heap.size + 1, 0, none⟩ u).setCell ⟨w.heap.size + 1, 1, none⟩ v).drew.cell? ⟨w1.heap.size, 1, none⟩ = some (.int .i64 f.b) ∧
        ((W.setCell ⟨w.heap.size + 1, 0, none⟩ u).setCell ⟨w.heap.size + 1, 1, none⟩ v).drew.cell? ⟨w1.heap.size, 2, none⟩ = some (.int .i64 f.c) := fun u v => ⟨(cell_set2 n1 _ _ _).trans (hr.1.1 0), (cell_set2 n1 _ _ _).trans (hr.1.1 1), (cell_set2 n1 _ _ _).trans (hr.1.1 2)⟩
    clear X
    go_region_held3 (fun w' => w'.cell? ⟨w1.heap.size, 0, none⟩ = some (.int .i64 f.a) ∧ w'.cell? ⟨w1.heap.size, 1, none⟩ = some (.int .i64 f.b) ∧ w'.cell? ⟨w1.heap.size, 2, none⟩ = some (.int .i64 f.c)) (first | go_keep | exact KP _ _) (fail)
    go_wp2
    exact bodyPost_ret (v := .agg #[.int .i64 f.b, .int .i64 f.c]) (by simp [results, Tryz.results93, hr, go_sem]) rfl ⟨rfl, by have HX := XB.out; have hz := HX.size; go_grown⟩
  · clear hk
    show Calls _ _ #[f.val, .int .i64 2] w (RetW (.agg #[.int .i64 f.c, .int .i64 f.a]) w)
    go_enter Tryz.func93, Tryz.ntmps93
    go_wp2_with fail
    refine (CN.out _).mono ?_
    rintro e w1 ⟨rfl, hb⟩
    have n0 : w.heap.size + 1 < w1.heap.size := by have hz := hb.size; simp at hz; omega
    replace X := (X.to hb).alloc #[.int .i64 f.a, .int .i64 f.b, .int .i64 f.c] 143
    clear hr hb
    have XB := hide X.1
    have n1 : ¬ (w1.heap.size = w.heap.size + 1) := by omega
    have s1 : IntKind.i64.wrap 3 = 3 := by decide
    have s2 : (3 : Int).tmod 3 = 0 := by decide
    go_wp2
    generalize w1.alloc (.cells #[.int .i64 f.a, .int .i64 f.b, .int .i64 f.c] 143) = W at *
    have hr := X.r3
    have KP : ∀ u v : Value, ((W.setCell ⟨w.heap.size + 1, 0, none⟩ u).setCell ⟨w.heap.size + 1, 1, none⟩ v).drew.cell? ⟨w1.heap.size, 0, none⟩ = some (.int .i64 f.a) ∧ ((W.setCell ⟨w.heap.size + 1, 0, none⟩ u).setCell ⟨w.heap.size + 1, 1, none⟩ v).drew.cell? ⟨w1.heap.size, 1, none⟩ = some (.int .i64 f.b) ∧
        ((W.setCell ⟨w.heap.size + 1, 0, none⟩ u).setCell ⟨w.heap.size + 1, 1, none⟩ v).drew.cell? ⟨w1.heap.size, 2, none⟩ = some (.int .i64 f.c) := fun u v => ⟨(cell_set2 n1 _ _ _).trans (hr.1.1 0), (cell_set2 n1 _ _ _).trans (hr.1.1 1), (cell_set2 n1 _ _ _).trans (hr.1.1 2)⟩
    clear X
    go_region_held3 (fun w' => w'.cell? ⟨w1.heap.size, 0, none⟩ = some (.int .i64 f.a) ∧ w'.cell? ⟨w1.heap.size, 1, none⟩ = some (.int .i64 f.b) ∧ w'.cell? ⟨w1.heap.size, 2, none⟩ = some (.int .i64 f.c)) (first | go_keep | exact KP _ _) (fail)
    go_wp2
    exact bodyPost_ret (v := .agg #[.int .i64 f.c, .int .i64 f.a]) (by simp [results, Tryz.results93, hr, go_sem]) rfl ⟨rfl, by have HX := XB.out; have hz := HX.size; go_grown⟩
end Go.Proofs.YtlnlaopokelggaaGreatDoor

namespace Go.Proofs.YtlnlaopokelggaaGreatDoor
open Go Go.RowKit

def bcR : Go.Shelf.Ren := ⟨fun | 25 => 83 | 26 => 84 | n => n, fun | 22 => 103 | n => n, fun | n => n⟩
theorem bcA : Go.Proofs.Lays7.n25 Tryz.prog bcR := {
  mixed := by kernel_rfl
  f25 := Tryz.func83.trans (congrArg some (by kernel_rfl))
  t22 := Tryz.underlying103
  a22 := Tryz.isAgg103
  z22 := Tryz.sizeOf103
  v22 := Tryz.zeroValue103
  i22 := by kernel_rfl }
theorem bcS : Go.Proofs.Lays7.n26 Tryz.prog bcR := {
  mixed := by kernel_rfl
  f26 := Tryz.func84.trans (congrArg some (by kernel_rfl))
  t22 := Tryz.underlying103
  a22 := Tryz.isAgg103
  z22 := Tryz.sizeOf103
  v22 := Tryz.zeroValue103
  i22 := by kernel_rfl }
theorem add64C (x y s c : Nat) (hs : s = (x + y) % 18446744073709551616) (hc : c = (x + y) / 18446744073709551616) (w : World) :
    (callFunc 83 #[.int .u64 (x : Int), .int .u64 (y : Int), .int .u64 0]).run Tryz.prog w = .ok (.value (.tuple #[.int .u64 (s : Int), .int .u64 (c : Int)])) w := by
  subst hs hc
  exact Any7.bits_Add64 bcA x y 0 (by omega) w
theorem sub64C (x y s c : Nat) (hs : s = (x + 18446744073709551616 - y) % 18446744073709551616) (hc : c = if x < y then 1 else 0) (w : World) :
    (callFunc 84 #[.int .u64 (x : Int), .int .u64 (y : Int), .int .u64 0]).run Tryz.prog w = .ok (.value (.tuple #[.int .u64 (s : Int), .int .u64 (c : Int)])) w := by
  subst hs hc
  exact Any7.bits_Sub64 bcS x y 0 (by omega) w
end Go.Proofs.YtlnlaopokelggaaGreatDoor

namespace Go.Proofs.YtlnlaopokelggaaGreatDoor
open Go Go.RowKit

set_option maxHeartbeats 2000000 in
theorem wsplaced_any (v : Int) (w : World) (h : wideB v) : Calls Tryz.prog 55 #[WN v] w (RetW (.tuple #[WV v, .int .i64 0]) w) := by
  rcases Int.lt_or_le (-1) v with hv | hv
  · obtain ⟨n, rfl⟩ : ∃ n : Nat, v = (n : Int) := ⟨v.toNat, by omega⟩
    rw [WN_nat, WV_nat]
    exact wdplaced_any n w (by have := h.2; omega)
  obtain ⟨m, rfl⟩ : ∃ m : Nat, v = -(m : Int) := ⟨(-v).toNat, by omega⟩
  have hm0 : 0 < m := by omega
  have hm1 : m ≤ 1267650600228229401496703205376 := by have := h.1; omega
  obtain ⟨hi, hhi⟩ : ∃ hi, hi = m / 18446744073709551616 := ⟨_, rfl⟩
  obtain ⟨lo, hlo⟩ : ∃ lo, lo = m % 18446744073709551616 := ⟨_, rfl⟩
  obtain ⟨a, ha⟩ : ∃ a, a = m / 1152921504606846976 := ⟨_, rfl⟩
  obtain ⟨b, hb⟩ : ∃ b, b = m % 1152921504606846976 := ⟨_, rfl⟩
  have d1 : hi < 72057594037927936 := by omega
  have E1 : IntKind.u64.wrap ((hi : Int) * 16) = ((hi * 16 : Nat) : Int) := by rw [IntKind.wrap_u64]; omega
  have E2 : (lo : Int) / 1152921504606846976 = ((lo / 1152921504606846976 : Nat) : Int) := by omega
  have E3 : bits .or .u64 ((hi * 16 : Nat) : Int) ((lo / 1152921504606846976 : Nat) : Int) = (a : Int) := by
    have e : hi * 16 ||| lo / 1152921504606846976 = a := by
      rw [show hi * 16 = 2 ^ 4 * hi by omega, Nat.two_pow_add_eq_or_of_lt (by omega : lo / 1152921504606846976 < 2 ^ 4) hi |>.symm]
      omega
    exact u64_or_nat e (by omega) (by omega)
  have E4 : IntKind.i64.wrap (a : Int) = (a : Int) := IntWalk.i64_in _ (by omega)
  have E5 : bits .and .u64 (lo : Int) 1152921504606846975 = (b : Int) := by
    have e : lo &&& 1152921504606846975 = lo % 1152921504606846976 := Nat.and_two_pow_sub_one_eq_mod lo 60
    have := bits_and_u64_nat lo 1152921504606846975 (by omega) (by omega)
    rw [e] at this
    have e2 : lo % 1152921504606846976 = b := by omega
    rw [e2] at this
    exact this
  have E6 : IntKind.i64.wrap (b : Int) = (b : Int) := IntWalk.i64_in _ (by omega)
  have E7 : IntKind.i64.wrap (-(a : Int)) = -(a : Int) := IntWalk.i64_in _ (by omega)
  have E8 : IntKind.i64.wrap (-(a : Int) - 1) = -(a : Int) - 1 := IntWalk.i64_in _ (by omega)
  have E9 : IntKind.i64.wrap (1152921504606846976 - (b : Int)) = 1152921504606846976 - (b : Int) := IntWalk.i64_in _ (by omega)
  have g1 : ¬ ((hi : Int) > 72057594037927936) := by omega
  have g2 : ((hi : Int) == 72057594037927936) = false := beq_eq_false_iff_ne.2 (by omega)
  have X := ((Own.start w).alloc #[.int .u64 (hi : Int), .int .u64 (lo : Int), .bool true] 105).alloc #[.int .i64 0, .int .i64 0] 80
  rw [WN_neg hm0, ← hhi, ← hlo]
  rcases Nat.eq_zero_or_pos b with hb0 | hb0
  · rw [WV_neg0 (by omega), ← ha]
    have g3 : ((b : Int) == 0) = true := beq_iff_eq.2 (by omega)
    generalize ((hi * 16 : Nat) : Int) = z1 at *
    generalize ((lo / 1152921504606846976 : Nat) : Int) = z2 at *
    clear hhi hlo ha hb h hm0 hm1 hv hb0 E8 E9
    go_enter Tryz.func55, Tryz.ntmps55
    go_wp2
    go_quiet (fail)
    go_wp2
    have Y := (X.drewN' nq).1
    refine bodyPost_ret (v := .tuple #[.agg #[.int .i64 (-(a : Int)), .int .i64 0], .int .i64 0]) (by simp [results, Tryz.results55, go_sem]) rfl ⟨rfl, ?_⟩
    first
    | exact below_set (below_set Y (by omega) _) (by omega) _
    | exact below_set Y (by omega) _
  · rw [WV_neg1 (by omega), ← ha, ← hb]
    have g3 : ((b : Int) == 0) = false := beq_eq_false_iff_ne.2 (by omega)
    generalize ((hi * 16 : Nat) : Int) = z1 at *
    generalize ((lo / 1152921504606846976 : Nat) : Int) = z2 at *
    clear hhi hlo ha hb h hm0 hm1 hv hb0
    go_enter Tryz.func55, Tryz.ntmps55
    go_wp2
    go_quiet (fail)
    go_wp2
    have Y := (X.drewN' nq).1
    refine bodyPost_ret (v := .tuple #[.agg #[.int .i64 (-(a : Int) - 1), .int .i64 (1152921504606846976 - (b : Int))], .int .i64 0]) (by simp [results, Tryz.results55, go_sem]) rfl ⟨rfl, ?_⟩
    exact below_set (below_set Y (by omega) _) (by omega) _
set_option maxRecDepth 100000 in
set_option maxHeartbeats 1000000 in
theorem wsvalid_any (v : Int) (w : World) (h : wideB v) : Calls Tryz.prog 58 #[WV v] w (RetW (.bool true) w) := by
  have b1 : (-1152921504606846976 : Int) ≤ v / 1152921504606846976 := by have := h.1; omega
  have b2 : v / 1152921504606846976 < (1152921504606846976 : Int) := by have := h.2; omega
  have b3 : (0 : Int) ≤ v % 1152921504606846976 := by omega
  have b4 : v % 1152921504606846976 < (1152921504606846976 : Int) := by omega
  unfold WV
  generalize v / 1152921504606846976 = a at *
  generalize v % 1152921504606846976 = b at *
  clear h
  go_enter Tryz.func58, Tryz.ntmps58
  go_wp2
  go_ret
  exact ⟨ret_bool rfl, by go_grown⟩
set_option maxHeartbeats 2000000 in
theorem wsvalue_any (v : Int) (w : World) (h : wideB v) : Calls Tryz.prog 60 #[WV v] w (RetW (WN v) w) := by
  rcases Int.lt_or_le (-1) v with hv | hv
  · obtain ⟨n, rfl⟩ : ∃ n : Nat, v = (n : Int) := ⟨v.toNat, by omega⟩
    rw [WN_nat, WV_nat]
    exact wdvalue_any n w (by have := h.2; omega)
  obtain ⟨m, rfl⟩ : ∃ m : Nat, v = -(m : Int) := ⟨(-v).toNat, by omega⟩
  have hm0 : 0 < m := by omega
  have hm1 : m ≤ 1267650600228229401496703205376 := by have := h.1; omega
  -- the upper part is -H, the lower one L
  obtain ⟨H, hH⟩ : ∃ H : Nat, -(m : Int) / 1152921504606846976 = -(H : Int) := ⟨((m + 1152921504606846975) / 1152921504606846976), by omega⟩
  obtain ⟨L, hL⟩ : ∃ L : Nat, -(m : Int) % 1152921504606846976 = (L : Int) := ⟨(-(m : Int) % 1152921504606846976).toNat, by omega⟩
  have hHL : m + L = H * 1152921504606846976 := by omega
  have hL1 : L < 1152921504606846976 := by omega
  have hH0 : 0 < H := by omega
  have hH1 : H ≤ 1152921504606846976 := by omega
  obtain ⟨c, hc⟩ : ∃ c, c = H * 1152921504606846976 % 18446744073709551616 := ⟨_, rfl⟩
  obtain ⟨q, hq⟩ : ∃ q, q = H / 16 := ⟨_, rfl⟩
  have E0 : (-(H : Int)).natAbs = H := by omega
  have E1 : (H : Int) / 16 = (q : Int) := by omega
  have E2 : IntKind.u64.wrap ((H : Int) * 1152921504606846976) = (c : Int) := e_mul (y := 1152921504606846976) hc
  have E3 : IntKind.u64.wrap (L : Int) = (L : Int) := u64_nat (by omega)
  obtain ⟨lo, hlo⟩ : ∃ lo, lo = m % 18446744073709551616 := ⟨_, rfl⟩
  obtain ⟨hi, hhi⟩ : ∃ hi, hi = m / 18446744073709551616 := ⟨_, rfl⟩
  obtain ⟨bo, hbo⟩ : ∃ bo : Nat, bo = if c < L then 1 else 0 := ⟨_, rfl⟩
  have SB := sub64C c L lo bo (by omega) hbo
  have E5 : IntKind.u64.wrap ((q : Int) - (bo : Int)) = (hi : Int) := by
    rw [IntKind.wrap_u64, hbo]
    split <;> omega
  have g1 : ¬ ((0 : Int) ≤ -(H : Int)) := by omega
  have SZ := hide (fun W => wsize_any (-(H : Int)) W (by omega) (by omega))
  rw [E0] at SZ
  have X := ((Own.start w).alloc #[.int .i64 (-(H : Int)), .int .i64 (L : Int)] 80).alloc #[.int .u64 0, .int .u64 0, .bool false] 105
  rw [WN_neg hm0, ← hlo, ← hhi]
  unfold WV
  rw [hH, hL]
  clear hhi hlo hc hq hHL hH0 hH1 hL1 hH hL E0 hm0 hm1 hv h hbo
  go_enter Tryz.func60, Tryz.ntmps60
  go_wp2_with fail
  refine (SZ.out _).mono ?_
  rintro e w' ⟨rfl, rfl⟩
  go_wp2
  refine bodyPost_ret (v := .agg #[.int .u64 (hi : Int), .int .u64 (lo : Int), .bool true]) (by simp [results, Tryz.results60, go_sem]) rfl ⟨rfl, ?_⟩
  go_grown
end Go.Proofs.YtlnlaopokelggaaGreatDoor

namespace Go.Proofs.YtlnlaopokelggaaGreatDoor
open Go Go.RowKit

set_option maxHeartbeats 2000000 in
theorem wssum_same (h1 l1 h2 l2 hi lo c : Nat) (p : Bool) (w : World) (hlo : lo = (l1 + l2) % 18446744073709551616) (hc : c = (l1 + l2) / 18446744073709551616) (hhi : hi = h1 + h2 + c) (hb1 : h1 < 4611686018427387904) (hb2 : h2 < 4611686018427387904) (k1 : l1 < 18446744073709551616) (k2 : l2 < 18446744073709551616) :
    Calls Tryz.prog 59 #[.agg #[.int .u64 (h1 : Int), .int .u64 (l1 : Int), .bool p], .agg #[.int .u64 (h2 : Int), .int .u64 (l2 : Int), .bool p]] w (RetW (.agg #[.int .u64 (hi : Int), .int .u64 (lo : Int), .bool (p && ((hi : Int) != 0 || (lo : Int) != 0))]) w) := by
  have X := (((Own.start w).alloc #[.int .u64 (h1 : Int), .int .u64 (l1 : Int), .bool p] 105).alloc #[.int .u64 (h2 : Int), .int .u64 (l2 : Int), .bool p] 105).alloc #[.int .u64 0, .int .u64 0, .bool false] 105
  simp only [World.size_alloc] at X
  have SA := add64C l1 l2 lo c hlo hc
  obtain ⟨g, hg⟩ : ∃ g : Nat, g = h1 + h2 := ⟨_, rfl⟩
  have E1 : IntKind.u64.wrap ((h1 : Int) + (h2 : Int)) = (g : Int) := by rw [IntKind.wrap_u64]; omega
  have E2 : IntKind.u64.wrap ((g : Int) + (c : Int)) = (hi : Int) := by rw [IntKind.wrap_u64]; omega
  have SG := hide (fun W => signed_any (hi : Int) (lo : Int) p W)
  have hr := X.r3
  have n1 : w.heap.size < w.heap.size + 1 + 1 := by omega
  clear hlo hc hhi hb1 hb2 k1 k2 hg
  cases p
  all_goals
    go_enter Tryz.func59, Tryz.ntmps59
    go_wp2_with fail
    refine (SG.out _).mono ?_
    rintro e w1 ⟨rfl, hb⟩
    replace X := X.to hb
    clear hr hb
    have hr := X.r3
    go_wp2
    refine bodyPost_ret (v := .agg #[.int .u64 (hi : Int), .int .u64 (lo : Int), .bool (_ && ((hi : Int) != 0 || (lo : Int) != 0))]) (by simp [results, Tryz.results59, hr, go_sem]) rfl ⟨rfl, ?_⟩
    exact below_set (below_set (below_set X.1 (by omega) _) (by omega) _) (by omega) _
set_option maxHeartbeats 4000000 in
theorem wssum_less (h1 l1 h2 l2 hi lo bo : Nat) (p q : Bool) (w : World) (hpq : p ≠ q) (hl : h1 < h2 ∨ h1 = h2 ∧ l1 < l2) (hlo : lo = (l2 + 18446744073709551616 - l1) % 18446744073709551616) (hbo : bo = if l2 < l1 then 1 else 0) (hhi : hi + h1 + bo = h2) (hb1 : h1 < 4611686018427387904) (hb2 : h2 < 4611686018427387904) :
    Calls Tryz.prog 59 #[.agg #[.int .u64 (h1 : Int), .int .u64 (l1 : Int), .bool p], .agg #[.int .u64 (h2 : Int), .int .u64 (l2 : Int), .bool q]] w (RetW (.agg #[.int .u64 (hi : Int), .int .u64 (lo : Int), .bool (q && ((hi : Int) != 0 || (lo : Int) != 0))]) w) := by
  have X := (((Own.start w).alloc #[.int .u64 (h2 : Int), .int .u64 (l2 : Int), .bool q] 105).alloc #[.int .u64 (h1 : Int), .int .u64 (l1 : Int), .bool p] 105).alloc #[.int .u64 0, .int .u64 0, .bool false] 105
  simp only [World.size_alloc] at X
  have SA := sub64C l2 l1 lo bo hlo hbo
  obtain ⟨g, hg⟩ : ∃ g : Nat, h2 = g + h1 := ⟨h2 - h1, by omega⟩
  have E1 : IntKind.u64.wrap ((h2 : Int) - (h1 : Int)) = (g : Int) := by rw [IntKind.wrap_u64]; omega
  have E2 : IntKind.u64.wrap ((g : Int) - (bo : Int)) = (hi : Int) := by rw [IntKind.wrap_u64]; omega
  have SG := hide (fun W => signed_any (hi : Int) (lo : Int) q W)
  have hr := X.r3
  have n1 : w.heap.size < w.heap.size + 1 + 1 := by omega
  have ways : decide (h1 < h2) = true ∨ decide (h1 < h2) = false ∧ (((h1 : Int) == (h2 : Int)) = true ∧ decide (l1 < l2) = true) := by
    rcases hl with h | ⟨h, h'⟩
    · exact .inl (by simp [h])
    · exact .inr ⟨by simp; omega, by simp [h], by simp [h']⟩
  clear hlo hbo hhi hb1 hb2 hg hl
  rcases ways with d1 | ⟨d1, d2, d3⟩
  all_goals
    cases p <;> cases q
    all_goals try exact absurd rfl hpq
    all_goals
      clear hpq
      go_enter Tryz.func59, Tryz.ntmps59
      go_wp2_with fail
      refine (SG.out _).mono ?_
      rintro e w1 ⟨rfl, hb⟩
      replace X := X.to hb
      clear hr hb
      have hr := X.r3
      go_wp2
      refine bodyPost_ret (v := .agg #[.int .u64 (hi : Int), .int .u64 (lo : Int), .bool (_ && ((hi : Int) != 0 || (lo : Int) != 0))]) (by simp [results, Tryz.results59, hr, go_sem]) rfl ⟨rfl, ?_⟩
      exact below_set (below_set (below_set X.1 (by omega) _) (by omega) _) (by omega) _
set_option maxHeartbeats 4000000 in
theorem wssum_more (h1 l1 h2 l2 hi lo bo : Nat) (p q : Bool) (w : World) (hpq : p ≠ q) (hl : h2 < h1 ∨ h1 = h2 ∧ l2 ≤ l1) (hlo : lo = (l1 + 18446744073709551616 - l2) % 18446744073709551616) (hbo : bo = if l1 < l2 then 1 else 0) (hhi : hi + h2 + bo = h1) (hb1 : h1 < 4611686018427387904) (hb2 : h2 < 4611686018427387904) :
    Calls Tryz.prog 59 #[.agg #[.int .u64 (h1 : Int), .int .u64 (l1 : Int), .bool p], .agg #[.int .u64 (h2 : Int), .int .u64 (l2 : Int), .bool q]] w (RetW (.agg #[.int .u64 (hi : Int), .int .u64 (lo : Int), .bool (p && ((hi : Int) != 0 || (lo : Int) != 0))]) w) := by
  have X := (((Own.start w).alloc #[.int .u64 (h1 : Int), .int .u64 (l1 : Int), .bool p] 105).alloc #[.int .u64 (h2 : Int), .int .u64 (l2 : Int), .bool q] 105).alloc #[.int .u64 0, .int .u64 0, .bool false] 105
  simp only [World.size_alloc] at X
  have SA := sub64C l1 l2 lo bo hlo hbo
  obtain ⟨g, hg⟩ : ∃ g : Nat, h1 = g + h2 := ⟨h1 - h2, by omega⟩
  have E1 : IntKind.u64.wrap ((h1 : Int) - (h2 : Int)) = (g : Int) := by rw [IntKind.wrap_u64]; omega
  have E2 : IntKind.u64.wrap ((g : Int) - (bo : Int)) = (hi : Int) := by rw [IntKind.wrap_u64]; omega
  have SG := hide (fun W => signed_any (hi : Int) (lo : Int) p W)
  have hr := X.r3
  have n1 : w.heap.size < w.heap.size + 1 + 1 := by omega
  have ways : decide (h1 < h2) = false ∧ ((h1 : Int) == (h2 : Int)) = false ∨ decide (h1 < h2) = false ∧ (((h1 : Int) == (h2 : Int)) = true ∧ decide (l1 < l2) = false) := by
    rcases hl with h | ⟨h, h'⟩
    · exact .inl ⟨by simp; omega, by simp; omega⟩
    · exact .inr ⟨by simp; omega, by simp [h], by simp [h']⟩
  clear hlo hbo hhi hb1 hb2 hg hl
  rcases ways with ⟨d1, d2⟩ | ⟨d1, d2, d3⟩
  all_goals
    cases p <;> cases q
    all_goals try exact absurd rfl hpq
    all_goals
      clear hpq
      go_enter Tryz.func59, Tryz.ntmps59
      go_wp2_with fail
      refine (SG.out _).mono ?_
      rintro e w1 ⟨rfl, hb⟩
      replace X := X.to hb
      clear hr hb
      have hr := X.r3
      go_wp2
      refine bodyPost_ret (v := .agg #[.int .u64 (hi : Int), .int .u64 (lo : Int), .bool (_ && ((hi : Int) != 0 || (lo : Int) != 0))]) (by simp [results, Tryz.results59, hr, go_sem]) rfl ⟨rfl, ?_⟩
      exact below_set (below_set (below_set X.1 (by omega) _) (by omega) _) (by omega) _
theorem wssum_any (x y : Int) (w : World) (hx : wideB x) (hy : wideB y) : Calls Tryz.prog 59 #[WN x, WN y] w (RetW (WN (x + y)) w) := by
  obtain ⟨m, hm⟩ : ∃ m, m = x.natAbs := ⟨_, rfl⟩
  obtain ⟨n, hn⟩ : ∃ n, n = y.natAbs := ⟨_, rfl⟩
  have bm : m ≤ 1267650600228229401496703205376 := by have := hx.1; have := hx.2; omega
  have bn : n ≤ 1267650600228229401496703205376 := by have := hy.1; have := hy.2; omega
  have ex : WN x = .agg #[.int .u64 ((m / 18446744073709551616 : Nat) : Int), .int .u64 ((m % 18446744073709551616 : Nat) : Int), .bool (decide (x < 0))] := by rw [hm]
  have ey : WN y = .agg #[.int .u64 ((n / 18446744073709551616 : Nat) : Int), .int .u64 ((n % 18446744073709551616 : Nat) : Int), .bool (decide (y < 0))] := by rw [hn]
  rw [ex, ey]
  by_cases hpq : decide (x < 0) = decide (y < 0)
  · have hs : (x < 0 ∧ y < 0) ∨ (0 ≤ x ∧ 0 ≤ y) := by simp only [decide_eq_decide] at hpq; omega
    have e : WN (x + y) = _ := WN_of (m := m + n) (b := decide (x < 0)) (by omega) (fun _ => by rcases hs with h | h <;> simp <;> omega)
    rw [e, ← hpq]
    exact wssum_same _ _ _ _ _ _ ((m % 18446744073709551616 + n % 18446744073709551616) / 18446744073709551616) _ w (by omega) rfl (by omega) (by omega) (by omega) (by omega) (by omega)
  · have hs : (x < 0 ∧ 0 ≤ y) ∨ (0 ≤ x ∧ y < 0) := by simp only [decide_eq_decide] at hpq; omega
    by_cases hl : m < n
    · have e : WN (x + y) = _ := WN_of (m := n - m) (b := decide (y < 0)) (by omega) (fun _ => by rcases hs with h | h <;> simp <;> omega)
      rw [e]
      exact wssum_less _ _ _ _ _ _ (if n % 18446744073709551616 < m % 18446744073709551616 then 1 else 0) _ _ w hpq (by omega) (by omega) rfl (by split <;> omega) (by omega) (by omega)
    · have e : WN (x + y) = _ := WN_of (m := m - n) (b := decide (x < 0)) (by omega) (fun _ => by rcases hs with h | h <;> simp <;> omega)
      rw [e]
      exact wssum_more _ _ _ _ _ _ (if m % 18446744073709551616 < n % 18446744073709551616 then 1 else 0) _ _ w hpq (by omega) (by omega) rfl (by split <;> omega) (by omega) (by omega)
end Go.Proofs.YtlnlaopokelggaaGreatDoor

namespace Go.Proofs.YtlnlaopokelggaaGreatDoor
open Go.RowKit

/-- the worlds in which the blocks of L are whole, and what was there in w is as it was -/
structure OwnW (w : World) (L : List (Nat × TypeId × Array Value)) where
  W : World
  own : Own w W L
theorem wp_region_own {P : Program} {id : Nat} {Q : Exit → Act → World → Prop} {a : Act} {w W : World} {L : List (Nat × TypeId × Array Value)} {l : List Oper} (hm : P.follows .mixedOrders = true) (hB : Region.lexB .any l.toArray = true) (hX : Own w W L)
    (h : wpQuiet P l.toArray (fun W' => ∃ x : OwnW w L, W' = x.W) (fun a' => ∀ W', (∃ x : OwnW w L, W' = x.W) → Q .normal a' W') l a) : (Code.region id l.toArray true).wp P Q a W :=
  wp_region_quiet (C := fun W' => ∃ x : OwnW w L, W' = x.W) hm hB ⟨⟨W.drew, hX.drew⟩, rfl⟩ (by simpa using h)
theorem own_call {P : Program} {f : FuncId} {args : Array Value} {w : World} {L : List (Nat × TypeId × Array Value)} {v : Value} {x : OwnW w L}
    (h : Calls P f args x.W fun e w' => e = .returned v ∧ Below x.W.heap.size x.W w') : Calls P f args x.W fun e w'' => e = .returned v ∧ ∃ y : OwnW w L, w'' = y.W :=
  h.mono fun _ w' ⟨he, hb⟩ => ⟨he, ⟨w', x.own.to hb⟩, rfl⟩
theorem own_same {P : Program} {f : FuncId} {args : Array Value} {w : World} {L : List (Nat × TypeId × Array Value)} {v : Value} {x : OwnW w L}
    (h : Calls P f args x.W fun e w' => e = .returned v ∧ x.W = w') : Calls P f args x.W fun e w'' => e = .returned v ∧ ∃ y : OwnW w L, w'' = y.W :=
  h.mono fun _ _ ⟨he, hb⟩ => ⟨he, x, hb.symm⟩
end Go.Proofs.YtlnlaopokelggaaGreatDoor
