/- Parts of one proof, joined: The law CostsLater returns true for every cost, rate and years; nothing that was there is turned. What the proofs of rows with listed variables import, under one name. Points as arguments: what a reading of them gives. -/
import Derived.Test.YtbmocghfpcfmhaaDoorPkCostsLater8
import Derived.Test.YtbmocghfpcfmhaaDoorPkCostsLater4
import Derived.ProofKit
import Derived.LaidMore
import Derived.OpenShut
import Derived.Stop.Joined
import Derived.SevenTiedAt
import Derived.Test.YtbmocghfpcfmhaaDoorPkCostsLater1
import Derived.Stop.LaidErr
namespace Go.Proofs.YtbmocghfpcfmhaaDoor
open Go Go.RowKit

def ltB (c n d y : Int) : Bool := decide (0 ≤ c ∧ c ≤ 1125899906842624 ∧ 0 ≤ n ∧ n ≤ 9900 ∧ 1 ≤ d ∧ d ≤ 10000 ∧ 0 ≤ y ∧ y ≤ 150)
set_option maxRecDepth 100000 in
set_option maxHeartbeats 4000000 in
theorem later_no (c n d y : Int) (m : Nat) (w : World) (ht : Lib.TabIs Tryd.prog w "internal/strconv.uint64pow10" .u64 Lib.pow10Tab) (h : ltB c n d y = false) (hm : m ≤ 255) :
    Calls Tryd.prog 3 #[.int .i64 c, .int .i64 n, .int .i64 d, .int .i64 y, .int .u8 (m : Int)] w (RetW (.bool true) w) := by
  have AW := hide (fun W h => awake48_any W h)
  unfold RetW at AW
  have HT := hide ht
  have k1 : IntKind.i64.wrap (m : Int) = (m : Int) := IntWalk.i64_in _ (by omega)
  have ways : decide (c < 0) = true ∨ (decide (c < 0) = false ∧ decide (1125899906842624 < c) = true) ∨ (decide (c < 0) = false ∧ decide (1125899906842624 < c) = false ∧ decide (n < 0) = true) ∨
      (decide (c < 0) = false ∧ decide (1125899906842624 < c) = false ∧ decide (n < 0) = false ∧ decide (9900 < n) = true) ∨
      (decide (c < 0) = false ∧ decide (1125899906842624 < c) = false ∧ decide (n < 0) = false ∧ decide (9900 < n) = false ∧ decide (d < 1) = true) ∨
      (decide (c < 0) = false ∧ decide (1125899906842624 < c) = false ∧ decide (n < 0) = false ∧ decide (9900 < n) = false ∧ decide (d < 1) = false ∧ decide (10000 < d) = true) ∨
      (decide (c < 0) = false ∧ decide (1125899906842624 < c) = false ∧ decide (n < 0) = false ∧ decide (9900 < n) = false ∧ decide (d < 1) = false ∧ decide (10000 < d) = false ∧ decide (y < 0) = true) ∨
      (decide (c < 0) = false ∧ decide (1125899906842624 < c) = false ∧ decide (n < 0) = false ∧ decide (9900 < n) = false ∧ decide (d < 1) = false ∧ decide (10000 < d) = false ∧ decide (y < 0) = false ∧ decide (150 < y) = true) := by
    have h := of_decide_eq_false h
    by_cases a0 : c < 0
    · exact .inl (decide_eq_true a0)
    refine .inr ?_
    by_cases a1 : 1125899906842624 < c
    · exact .inl ⟨decide_eq_false a0, decide_eq_true a1⟩
    refine .inr ?_
    by_cases a2 : n < 0
    · exact .inl ⟨decide_eq_false a0, decide_eq_false a1, decide_eq_true a2⟩
    refine .inr ?_
    by_cases a3 : 9900 < n
    · exact .inl ⟨decide_eq_false a0, decide_eq_false a1, decide_eq_false a2, decide_eq_true a3⟩
    refine .inr ?_
    by_cases a4 : d < 1
    · exact .inl ⟨decide_eq_false a0, decide_eq_false a1, decide_eq_false a2, decide_eq_false a3, decide_eq_true a4⟩
    refine .inr ?_
    by_cases a5 : 10000 < d
    · exact .inl ⟨decide_eq_false a0, decide_eq_false a1, decide_eq_false a2, decide_eq_false a3, decide_eq_false a4, decide_eq_true a5⟩
    refine .inr ?_
    by_cases a6 : y < 0
    · exact .inl ⟨decide_eq_false a0, decide_eq_false a1, decide_eq_false a2, decide_eq_false a3, decide_eq_false a4, decide_eq_false a5, decide_eq_true a6⟩
    refine .inr ?_
    exact ⟨decide_eq_false a0, decide_eq_false a1, decide_eq_false a2, decide_eq_false a3, decide_eq_false a4, decide_eq_false a5, decide_eq_false a6, decide_eq_true (by omega)⟩
  clear ht h
  rcases ways with q1 | ⟨q1, q2⟩ | ⟨q1, q2, q3⟩ | ⟨q1, q2, q3, q4⟩ | ⟨q1, q2, q3, q4, q5⟩ | ⟨q1, q2, q3, q4, q5, q6⟩ | ⟨q1, q2, q3, q4, q5, q6, q7⟩ | ⟨q1, q2, q3, q4, q5, q6, q7, q8⟩
  all_goals
    go_enter Tryd.func3, Tryd.ntmps3
    go_wp2_with fail
    refine (AW.out _ HT.out).mono ?_
    rintro e w1 ⟨rfl, hb⟩
    go_wp2
    go_ret
    exact ⟨rfl, hb⟩
set_option maxRecDepth 100000 in
set_option maxHeartbeats 8000000 in
theorem later_ok (c n d : Int) (y m : Nat) (w : World) (ht : Lib.TabIs Tryd.prog w "internal/strconv.uint64pow10" .u64 Lib.pow10Tab) (hc : 0 ≤ c ∧ c ≤ 1125899906842624) (hn : 0 ≤ n ∧ n ≤ 9900) (hd : 1 ≤ d ∧ d ≤ 10000) (hy : y ≤ 150) (hm : m ≤ 255) :
    Calls Tryd.prog 3 #[.int .i64 c, .int .i64 n, .int .i64 d, .int .i64 (y : Int), .int .u8 (m : Int)] w (RetW (.bool true) w) := by
  have AW := hide (fun W h => awake48_any W h)
  have HT := hide ht
  have k1 : IntKind.i64.wrap (m : Int) = (m : Int) := IntWalk.i64_in _ (by omega)
  obtain ⟨k, hk⟩ : ∃ k : Nat, k = m % 50 := ⟨_, rfl⟩
  have k2 : (m : Int).tmod 50 = (k : Int) := by rw [Int.tmod_eq_emod_of_nonneg (by omega)]; omega
  have k3 : (m : Int) % 50 = (k : Int) := by omega
  have kb : k < 50 := by omega
  have w1 : IntKind.i64.wrap (k : Int) = (k : Int) := IntWalk.i64_in _ (by omega)
  have w2 : IntKind.i64.wrap ((y : Int) + (k : Int)) = ((y + k : Nat) : Int) := by rw [IntWalk.i64_in _ (by omega)]; omega
  have w3 : IntKind.i64.wrap (n + (k : Int)) = n + (k : Int) := IntWalk.i64_in _ (by omega)
  have w4 : IntKind.i64.wrap (c + (k : Int)) = c + (k : Int) := IntWalk.i64_in _ (by omega)
  obtain ⟨x1, x2, x3⟩ := pr_bd hn.1 hd.1 hc.1 y
  obtain ⟨y1, y2⟩ := pr_later hn.1 hd.1 hc.1 y k
  obtain ⟨z1, z2⟩ := pr_rate (m := n + k) hn.1 (by omega) hd.1 hc.1 y
  obtain ⟨v1, v2⟩ := pr_cost (e := min 1125899906842624 (c + k)) hn.1 hd.1 hc.1 (by omega) y
  obtain ⟨t1, t2⟩ := pr_two (c := c) hn.1 hd.1
  have tb := pr_bd hn.1 hd.1 hc.1 2
  have P1 := hide (fun W => copresent_ok c n d y W hc (by omega) hd (by omega))
  have P2 := hide (fun W => copresent_ok c n d (y + k) W hc (by omega) hd (by omega))
  have P3 := hide (fun W => copresent_ok c (n + k) d y W hc (by omega) hd (by omega))
  have P4 := hide (fun W => copresent_ok (min 1125899906842624 (c + k)) n d y W (by omega) (by omega) hd (by omega))
  have P5 := hide (fun W => copresent_ok (prL n d y c) n d k W (by omega) (by omega) hd (by omega))
  have P6 := hide (fun W => copresent_ok (prU n d y c) n d k W (by omega) (by omega) hd (by omega))
  have P7 := hide (fun W => copresent_ok c n d 2 W hc (by omega) hd (by omega))
  rw [← prL_add] at P5
  rw [← prU_add] at P6
  unfold RetW at AW P1 P2 P3 P4 P5 P6 P7
  generalize prL n d (y + k) c = yl at *
  generalize prU n d (y + k) c = yh at *
  generalize prU n d k (prL n d y c) = j1 at *
  generalize prL n d k (prU n d y c) = j2 at *
  generalize prL n d y c = xl at *
  generalize prU n d y c = xh at *
  generalize prL (n + k) d y c = zl at *
  generalize prU (n + k) d y c = zh at *
  generalize prL n d y (min 1125899906842624 (c + k)) = vl at *
  generalize prU n d y (min 1125899906842624 (c + k)) = vh at *
  generalize prL n d 2 c = ul at *
  generalize prU n d 2 c = uh at *
  have q1 : decide (c < 0) = false := decide_eq_false (by omega)
  have q2 : decide (1125899906842624 < c) = false := decide_eq_false (by omega)
  have q3 : decide (n < 0) = false := decide_eq_false (by omega)
  have q4 : decide (9900 < n) = false := decide_eq_false (by omega)
  have q5 : decide (d < 1) = false := decide_eq_false (by omega)
  have q6 : decide (10000 < d) = false := decide_eq_false (by omega)
  have q7 : decide ((y : Int) < 0) = false := decide_eq_false (by omega)
  have q8 : decide (150 < (y : Int)) = false := decide_eq_false (by omega)
  have f1 : decide (xh < xl) = false := decide_eq_false (by omega)
  have f2 : decide (xl < 0) = false := decide_eq_false (by omega)
  have f3 : decide (c < xh) = false := decide_eq_false (by omega)
  have f4 : decide (xl < yl) = false := decide_eq_false (by omega)
  have f5 : decide (xh < yh) = false := decide_eq_false (by omega)
  have f6 : decide (xl < zl) = false := decide_eq_false (by omega)
  have f7 : decide (xh < zh) = false := decide_eq_false (by omega)
  have f8 : decide (vl < xl) = false := decide_eq_false (by omega)
  have f9 : decide (vh < xh) = false := decide_eq_false (by omega)
  have two : ∃ s a1 a2 e1 e2 : Int, (c ≤ 1000 → d ≤ 100 → n ≤ 100 → IntKind.i64.wrap ((d + n) * (d + n)) = s ∧ IntKind.i64.wrap (ul * s) = a1 ∧ IntKind.i64.wrap (uh * s) = a2 ∧ IntKind.i64.wrap (c * d) = e1 ∧ IntKind.i64.wrap (e1 * d) = e2 ∧ a1 ≤ e2 ∧ e2 ≤ a2) := by
    refine ⟨(d + n) * (d + n), ul * ((d + n) * (d + n)), uh * ((d + n) * (d + n)), c * d, c * d * d, fun b1 b2 b3 => ?_⟩
    have s0 := mul_bd (x := d + n) (y := d + n) (n := 200) (by omega) (by omega)
    simp only [Nat.reduceMul] at s0
    have s1 := mul_bd (x := ul) (y := (d + n) * (d + n)) (n := 40000) (by omega) (by omega)
    have s2 := mul_bd (x := uh) (y := (d + n) * (d + n)) (n := 40000) (by omega) (by omega)
    have s3 := mul_bd (x := c) (y := d) (n := 1000) (by omega) (by omega)
    simp only [Nat.reduceMul] at s1 s2 s3
    have s4 := mul_bd (x := c * d) (y := d) (n := 1000000) (by omega) (by omega)
    simp only [Nat.reduceMul] at s4
    exact ⟨IntWalk.i64_in _ (by omega), IntWalk.i64_in _ (by omega), IntWalk.i64_in _ (by omega), IntWalk.i64_in _ (by omega), IntWalk.i64_in _ (by omega), t1, t2⟩
  obtain ⟨s, a1, a2, e1, e2, TW⟩ := two
  have HTW := hide TW
  have wdn : IntKind.i64.wrap (d + n) = d + n := IntWalk.i64_in _ (by omega)
  clear TW t1 t2 tb x1 x2 x3 y1 y2 z1 z2 v1 v2 hk ht hm hy
  have X := Own.start w
  go_enter Tryd.func3, Tryd.ntmps3
  go_wp2_with fail
  refine (AW.out _ HT.out).mono ?_
  rintro e w1 ⟨rfl, hb⟩
  replace X := X.to hb
  clear hb
  go_wp2_with fail
  refine (P1.out _).mono ?_
  rintro e w2 ⟨rfl, hb⟩
  replace X := (X.to hb).alloc #[.int .i64 xl, .int .i64 xh] 24
  clear hb
  have hr := X.r1
  go_wp2_with fail
  refine (P2.out _).mono ?_
  rintro e w3 ⟨rfl, hb⟩
  have n1 : w2.heap.size < w3.heap.size := (X.to hb).r1.2.2
  replace X := (X.to hb).alloc #[.int .i64 yl, .int .i64 yh] 24
  clear hb hr
  have hr := X.r2
  go_wp2_with fail
  refine (P3.out _).mono ?_
  rintro e w4 ⟨rfl, hb⟩
  have n2 : w3.heap.size < w4.heap.size := (X.to hb).r1.2.2
  replace X := (X.to hb).alloc #[.int .i64 zl, .int .i64 zh] 24
  clear hb hr
  have hr := X.r3
  go_wp2_with fail
  refine (P4.out _).mono ?_
  rintro e w5 ⟨rfl, hb⟩
  have n3 : w4.heap.size < w5.heap.size := (X.to hb).r1.2.2
  replace X := (X.to hb).alloc #[.int .i64 vl, .int .i64 vh] 24
  clear hb hr
  have hr := X.r4
  go_wp2_with fail
  refine (P5.out _).mono ?_
  rintro e w6 ⟨rfl, hb⟩
  have n4 : w5.heap.size < w6.heap.size := (X.to hb).r1.2.2
  replace X := (X.to hb).alloc #[.int .i64 yl, .int .i64 j1] 24
  clear hb hr
  have hr := X.r5
  go_wp2_with fail
  refine (P6.out _).mono ?_
  rintro e w7 ⟨rfl, hb⟩
  have n5 : w6.heap.size < w7.heap.size := (X.to hb).r1.2.2
  replace X := (X.to hb).alloc #[.int .i64 j2, .int .i64 yh] 24
  clear hb hr
  have hr := X.r6
  have XB := hide X.1
  have ways : decide (1000 < c) = true ∨ (decide (1000 < c) = false ∧ decide (100 < d) = true) ∨ (decide (1000 < c) = false ∧ decide (100 < d) = false ∧ decide (100 < n) = true) ∨ (decide (1000 < c) = false ∧ decide (100 < d) = false ∧ decide (100 < n) = false) := by
    cases decide (1000 < c) <;> cases decide (100 < d) <;> cases decide (100 < n) <;> simp
  rcases ways with p1 | ⟨p1, p2⟩ | ⟨p1, p2, p3⟩ | ⟨p1, p2, p3⟩
  iterate 3
    · clear X HTW
      go_wp2
      go_ret
      exact ⟨rfl, XB.out⟩
  · obtain ⟨o1, o2, o3, o4, o5, o6, o7⟩ := HTW.out (by have := of_decide_eq_false p1; omega) (by have := of_decide_eq_false p2; omega) (by have := of_decide_eq_false p3; omega)
    have g1 : decide (a1 ≤ e2) = true := decide_eq_true o6
    have g2 : decide (e2 ≤ a2) = true := decide_eq_true o7
    clear HTW o6 o7 hc hn hd
    go_wp2_with fail
    refine (P7.out _).mono ?_
    rintro e w8 ⟨rfl, hb⟩
    have Y := (X.to hb).alloc #[.int .i64 ul, .int .i64 uh] 24
    clear hb hr X XB
    have hr := Y.r1
    have YB := hide Y.1
    clear Y
    go_wp2
    go_ret
    exact ⟨rfl, YB.out⟩
theorem u8W48 {x : Int} (h : (Lit.int .u8 x).wf = true) : 0 ≤ x ∧ x ≤ 255 := by
  simpa [Lit.wf, IntKind.min, IntKind.max, IntKind.signed, IntKind.bits] using h
theorem later_law (c n d y m : Int) (w : World) (ht : Lib.TabIs Tryd.prog w "internal/strconv.uint64pow10" .u64 Lib.pow10Tab) (hm : 0 ≤ m ∧ m ≤ 255) :
    Calls Tryd.prog 3 #[.int .i64 c, .int .i64 n, .int .i64 d, .int .i64 y, .int .u8 m] w (RetW (.bool true) w) := by
  obtain ⟨j, rfl⟩ : ∃ j : Nat, m = (j : Int) := ⟨m.toNat, by omega⟩
  cases h : ltB c n d y with
  | false => exact later_no c n d y j w ht h (by omega)
  | true =>
    obtain ⟨h1, h2, h3, h4, h5, h6, h7, h8⟩ := of_decide_eq_true h
    obtain ⟨k, rfl⟩ : ∃ k : Nat, y = (k : Int) := ⟨y.toNat, by omega⟩
    exact later_ok c n d k j w ht ⟨h1, h2⟩ ⟨h3, h4⟩ ⟨h5, h6⟩ (by omega) (by omega)
end Go.Proofs.YtbmocghfpcfmhaaDoor

namespace Go.Proofs.YtbmocghfpcfmhaaDoor
open Go Go.RowKit
theorem i64_of_wf {n : Int} (h : (Lit.int .i64 n).wf = true) : -9223372036854775808 ≤ n ∧ n ≤ 9223372036854775807 := by
  simpa [Lit.wf, IntKind.min, IntKind.max, IntKind.signed, IntKind.bits] using h
theorem u32_of_wf {n : Int} (h : (Lit.int .u32 n).wf = true) : 0 ≤ n ∧ n ≤ 4294967295 := by
  simpa [Lit.wf, IntKind.min, IntKind.max, IntKind.signed, IntKind.bits] using h
end Go.Proofs.YtbmocghfpcfmhaaDoor

namespace Go.Proofs.YtbmocghfpcfmhaaDoor
open Go.RowKit Go.ChangeShapes Go.WideShapes Go.ChangeAt
section
variable {H : Type} {enc : TypeId × Value → H} {W : World} {base b0 : Nat} {sp : Nat → Bool} {hd : Bool} {v : Value} {d : DataW H} {p : List MemPlace}
set_option maxRecDepth 100000 in
theorem open_point (hv : Value.okWide Tryd.prog W .any b0 44 v) (h : DataW.Trod enc Tryd.prog W base sp hd 44 v d p) : ∃ c : Pnt, v = c.val ∧ True := by
  obtain ⟨v0, v1, y0, y1, n, rfl, _, _, g0, g1⟩ := Joins.open_agg2 Tryd.underlying44 (by kernel_rfl) (by kernel_rfl) hv h
  obtain ⟨x1, e1, k1⟩ := DataW.trod_int Tryd.underlying3 g0
  obtain ⟨x2, e2, k2⟩ := DataW.trod_int Tryd.underlying3 g1
  simp only [List.cons.injEq, and_true] at e1 e2
  subst e1 e2
  exact ⟨⟨x1, x2⟩, rfl, trivial⟩
end
end Go.Proofs.YtbmocghfpcfmhaaDoor
