/- Parts of one proof, joined: The program's signed wide integers: placed, Valid, value, Add, Product, Floor, Ceil, Int, Of: what each returns where nothing is too great; nothing that was there is turned. The program's sums of wide numbers, words by words: sum: what it returns; nothing that was there is turned. Regions that draw their order, of reads and calls that leave a class of worlds, ahead of some last operations that wait for all of them: one walk in the order of the text. The program's signed wide integers: Add, Product, Floor, Ceil, Int, Of: what each returns where nothing is too great; nothing that was there is turned. The program's signed wide integers: Product, Floor, Ceil, Int, Of: what each returns where nothing is too great; nothing that was there is turned. Slices of points; slices.IndexFunc and slices.ContainsFunc at points; the program's all, square, Distance of points: what each returns; nothing that was there is turned. -/
import Derived.Test.YtbmocghfpcfmhaaGreatDoorPkCostsTrenches6
import Derived.Test.YtbmocghfpcfmhaaGreatDoorPkCostsTrenches2
import Derived.StillTail
import Derived.Deep.RegionWith
import Derived.Test.YtbmocghfpcfmhaaGreatDoorPkCostsTrenches4
namespace Go.Proofs.YtbmocghfpcfmhaaGreatDoor
open Go Go.RowKit

set_option maxHeartbeats 2000000 in
theorem wsplaced_any (v : Int) (w : World) (h : wideB v) : Calls Tryz.prog 83 #[WN v] w (RetW (.tuple #[WV v, .int .i64 0]) w) := by
  rcases Int.lt_or_le (-1) v with hv | hv
  · obtain ⟨n, rfl⟩ : ∃ n : Nat, v = (n : Int) := ⟨v.toNat, by omega⟩
    rw [WN_nat, WV_nat]
    exact wdplaced_any n w (by have := h.2; omega)
  obtain ⟨m, rfl⟩ : ∃ m : Nat, v = -(m : Int) := ⟨(-v).toNat, by omega⟩
  have hm0 : 0 < m := by omega
  have hm1 : m ≤ 1267650600228229401496703205376 := by have := h.1; omega
  obtain ⟨hi, hhi⟩ : ∃ hi, hi = m / 18446744073709551616 := ⟨_, rfl⟩
  obtain ⟨lo, hlo⟩ : ∃ lo, lo = m % 18446744073709551616 := ⟨_, rfl⟩
  obtain ⟨a, ha⟩ : ∃ a, a = m / 1152921504606846976 := ⟨_, rfl⟩
  obtain ⟨b, hb⟩ : ∃ b, b = m % 1152921504606846976 := ⟨_, rfl⟩
  have d1 : hi < 72057594037927936 := by omega
  have E1 : IntKind.u64.wrap ((hi : Int) * 16) = ((hi * 16 : Nat) : Int) := by rw [IntKind.wrap_u64]; omega
  have E2 : (lo : Int) / 1152921504606846976 = ((lo / 1152921504606846976 : Nat) : Int) := by omega
  have E3 : bits .or .u64 ((hi * 16 : Nat) : Int) ((lo / 1152921504606846976 : Nat) : Int) = (a : Int) := by
    have e : hi * 16 ||| lo / 1152921504606846976 = a := by
      rw [show hi * 16 = 2 ^ 4 * hi by omega, Nat.two_pow_add_eq_or_of_lt (by omega : lo / 1152921504606846976 < 2 ^ 4) hi |>.symm]
      omega
    exact u64_or_nat e (by omega) (by omega)
  have E4 : IntKind.i64.wrap (a : Int) = (a : Int) := IntWalk.i64_in _ (by omega)
  have E5 : bits .and .u64 (lo : Int) 1152921504606846975 = (b : Int) := by
    have e : lo &&& 1152921504606846975 = lo % 1152921504606846976 := Nat.and_two_pow_sub_one_eq_mod lo 60
    have := bits_and_u64_nat lo 1152921504606846975 (by omega) (by omega)
    rw [e] at this
    have e2 : lo % 1152921504606846976 = b := by omega
    rw [e2] at this
    exact this
  have E6 : IntKind.i64.wrap (b : Int) = (b : Int) := IntWalk.i64_in _ (by omega)
  have E7 : IntKind.i64.wrap (-(a : Int)) = -(a : Int) := IntWalk.i64_in _ (by omega)
  have E8 : IntKind.i64.wrap (-(a : Int) - 1) = -(a : Int) - 1 := IntWalk.i64_in _ (by omega)
  have E9 : IntKind.i64.wrap (1152921504606846976 - (b : Int)) = 1152921504606846976 - (b : Int) := IntWalk.i64_in _ (by omega)
  have g1 : ¬ ((hi : Int) > 72057594037927936) := by omega
  have g2 : ((hi : Int) == 72057594037927936) = false := beq_eq_false_iff_ne.2 (by omega)
  have X := ((Own.start w).alloc #[.int .u64 (hi : Int), .int .u64 (lo : Int), .bool true] 101).alloc #[.int .i64 0, .int .i64 0] 84
  rw [WN_neg hm0, ← hhi, ← hlo]
  rcases Nat.eq_zero_or_pos b with hb0 | hb0
  · rw [WV_neg0 (by omega), ← ha]
    have g3 : ((b : Int) == 0) = true := beq_iff_eq.2 (by omega)
    generalize ((hi * 16 : Nat) : Int) = z1 at *
    generalize ((lo / 1152921504606846976 : Nat) : Int) = z2 at *
    clear hhi hlo ha hb h hm0 hm1 hv hb0 E8 E9
    go_enter Tryz.func83, Tryz.ntmps83
    go_wp2
    go_quiet (fail)
    go_wp2
    have Y := (X.drewN' nq).1
    refine bodyPost_ret (v := .tuple #[.agg #[.int .i64 (-(a : Int)), .int .i64 0], .int .i64 0]) (by simp [results, Tryz.results83, go_sem]) rfl ⟨rfl, ?_⟩
    first
    | exact below_set (below_set Y (by omega) _) (by omega) _
    | exact below_set Y (by omega) _
  · rw [WV_neg1 (by omega), ← ha, ← hb]
    have g3 : ((b : Int) == 0) = false := beq_eq_false_iff_ne.2 (by omega)
    generalize ((hi * 16 : Nat) : Int) = z1 at *
    generalize ((lo / 1152921504606846976 : Nat) : Int) = z2 at *
    clear hhi hlo ha hb h hm0 hm1 hv hb0
    go_enter Tryz.func83, Tryz.ntmps83
    go_wp2
    go_quiet (fail)
    go_wp2
    have Y := (X.drewN' nq).1
    refine bodyPost_ret (v := .tuple #[.agg #[.int .i64 (-(a : Int) - 1), .int .i64 (1152921504606846976 - (b : Int))], .int .i64 0]) (by simp [results, Tryz.results83, go_sem]) rfl ⟨rfl, ?_⟩
    exact below_set (below_set Y (by omega) _) (by omega) _
set_option maxRecDepth 100000 in
set_option maxHeartbeats 1000000 in
theorem wsvalid_any (v : Int) (w : World) (h : wideB v) : Calls Tryz.prog 86 #[WV v] w (RetW (.bool true) w) := by
  have b1 : (-1152921504606846976 : Int) ≤ v / 1152921504606846976 := by have := h.1; omega
  have b2 : v / 1152921504606846976 < (1152921504606846976 : Int) := by have := h.2; omega
  have b3 : (0 : Int) ≤ v % 1152921504606846976 := by omega
  have b4 : v % 1152921504606846976 < (1152921504606846976 : Int) := by omega
  unfold WV
  generalize v / 1152921504606846976 = a at *
  generalize v % 1152921504606846976 = b at *
  clear h
  go_enter Tryz.func86, Tryz.ntmps86
  go_wp2
  go_ret
  exact ⟨ret_bool rfl, by go_grown⟩
set_option maxHeartbeats 2000000 in
theorem wsvalue_any (v : Int) (w : World) (h : wideB v) : Calls Tryz.prog 88 #[WV v] w (RetW (WN v) w) := by
  rcases Int.lt_or_le (-1) v with hv | hv
  · obtain ⟨n, rfl⟩ : ∃ n : Nat, v = (n : Int) := ⟨v.toNat, by omega⟩
    rw [WN_nat, WV_nat]
    exact wdvalue_any n w (by have := h.2; omega)
  obtain ⟨m, rfl⟩ : ∃ m : Nat, v = -(m : Int) := ⟨(-v).toNat, by omega⟩
  have hm0 : 0 < m := by omega
  have hm1 : m ≤ 1267650600228229401496703205376 := by have := h.1; omega
  -- the upper part is -H, the lower one L
  obtain ⟨H, hH⟩ : ∃ H : Nat, -(m : Int) / 1152921504606846976 = -(H : Int) := ⟨((m + 1152921504606846975) / 1152921504606846976), by omega⟩
  obtain ⟨L, hL⟩ : ∃ L : Nat, -(m : Int) % 1152921504606846976 = (L : Int) := ⟨(-(m : Int) % 1152921504606846976).toNat, by omega⟩
  have hHL : m + L = H * 1152921504606846976 := by omega
  have hL1 : L < 1152921504606846976 := by omega
  have hH0 : 0 < H := by omega
  have hH1 : H ≤ 1152921504606846976 := by omega
  obtain ⟨c, hc⟩ : ∃ c, c = H * 1152921504606846976 % 18446744073709551616 := ⟨_, rfl⟩
  obtain ⟨q, hq⟩ : ∃ q, q = H / 16 := ⟨_, rfl⟩
  have E0 : (-(H : Int)).natAbs = H := by omega
  have E1 : (H : Int) / 16 = (q : Int) := by omega
  have E2 : IntKind.u64.wrap ((H : Int) * 1152921504606846976) = (c : Int) := e_mul (y := 1152921504606846976) hc
  have E3 : IntKind.u64.wrap (L : Int) = (L : Int) := u64_nat (by omega)
  obtain ⟨lo, hlo⟩ : ∃ lo, lo = m % 18446744073709551616 := ⟨_, rfl⟩
  obtain ⟨hi, hhi⟩ : ∃ hi, hi = m / 18446744073709551616 := ⟨_, rfl⟩
  obtain ⟨bo, hbo⟩ : ∃ bo : Nat, bo = if c < L then 1 else 0 := ⟨_, rfl⟩
  have SB := sub64C c L lo bo (by omega) hbo
  have E5 : IntKind.u64.wrap ((q : Int) - (bo : Int)) = (hi : Int) := by
    rw [IntKind.wrap_u64, hbo]
    split <;> omega
  have g1 : ¬ ((0 : Int) ≤ -(H : Int)) := by omega
  have SZ := hide (fun W => wsize_any (-(H : Int)) W (by omega) (by omega))
  rw [E0] at SZ
  have X := ((Own.start w).alloc #[.int .i64 (-(H : Int)), .int .i64 (L : Int)] 84).alloc #[.int .u64 0, .int .u64 0, .bool false] 101
  rw [WN_neg hm0, ← hlo, ← hhi]
  unfold WV
  rw [hH, hL]
  clear hhi hlo hc hq hHL hH0 hH1 hL1 hH hL E0 hm0 hm1 hv h hbo
  go_enter Tryz.func88, Tryz.ntmps88
  go_wp2_with fail
  refine (SZ.out _).mono ?_
  rintro e w' ⟨rfl, rfl⟩
  go_wp2
  refine bodyPost_ret (v := .agg #[.int .u64 (hi : Int), .int .u64 (lo : Int), .bool true]) (by simp [results, Tryz.results88, go_sem]) rfl ⟨rfl, ?_⟩
  go_grown
end Go.Proofs.YtbmocghfpcfmhaaGreatDoor

namespace Go.Proofs.YtbmocghfpcfmhaaGreatDoor
open Go Go.RowKit

set_option maxHeartbeats 2000000 in
theorem wssum_same (h1 l1 h2 l2 hi lo c : Nat) (p : Bool) (w : World) (hlo : lo = (l1 + l2) % 18446744073709551616) (hc : c = (l1 + l2) / 18446744073709551616) (hhi : hi = h1 + h2 + c) (hb1 : h1 < 4611686018427387904) (hb2 : h2 < 4611686018427387904) (k1 : l1 < 18446744073709551616) (k2 : l2 < 18446744073709551616) :
    Calls Tryz.prog 87 #[.agg #[.int .u64 (h1 : Int), .int .u64 (l1 : Int), .bool p], .agg #[.int .u64 (h2 : Int), .int .u64 (l2 : Int), .bool p]] w (RetW (.agg #[.int .u64 (hi : Int), .int .u64 (lo : Int), .bool (p && ((hi : Int) != 0 || (lo : Int) != 0))]) w) := by
  have X := (((Own.start w).alloc #[.int .u64 (h1 : Int), .int .u64 (l1 : Int), .bool p] 101).alloc #[.int .u64 (h2 : Int), .int .u64 (l2 : Int), .bool p] 101).alloc #[.int .u64 0, .int .u64 0, .bool false] 101
  simp only [World.size_alloc] at X
  have SA := add64C l1 l2 lo c hlo hc
  obtain ⟨g, hg⟩ : ∃ g : Nat, g = h1 + h2 := ⟨_, rfl⟩
  have E1 : IntKind.u64.wrap ((h1 : Int) + (h2 : Int)) = (g : Int) := by rw [IntKind.wrap_u64]; omega
  have E2 : IntKind.u64.wrap ((g : Int) + (c : Int)) = (hi : Int) := by rw [IntKind.wrap_u64]; omega
  have SG := hide (fun W => signed_any (hi : Int) (lo : Int) p W)
  have hr := X.r3
  have n1 : w.heap.size < w.heap.size + 1 + 1 := by omega
  clear hlo hc hhi hb1 hb2 k1 k2 hg
  cases p
  all_goals
    go_enter Tryz.func87, Tryz.ntmps87
    go_wp2_with fail
    refine (SG.out _).mono ?_
    rintro e w1 ⟨rfl, hb⟩
    replace X := X.to hb
    clear hr hb
    have hr := X.r3
    go_wp2
    refine bodyPost_ret (v := .agg #[.int .u64 (hi : Int), .int .u64 (lo : Int), .bool (_ && ((hi : Int) != 0 || (lo : Int) != 0))]) (by simp [results, Tryz.results87, hr, go_sem]) rfl ⟨rfl, ?_⟩
    exact below_set (below_set (below_set X.1 (by omega) _) (by omega) _) (by omega) _
set_option maxHeartbeats 4000000 in
theorem wssum_less (h1 l1 h2 l2 hi lo bo : Nat) (p q : Bool) (w : World) (hpq : p ≠ q) (hl : h1 < h2 ∨ h1 = h2 ∧ l1 < l2) (hlo : lo = (l2 + 18446744073709551616 - l1) % 18446744073709551616) (hbo : bo = if l2 < l1 then 1 else 0) (hhi : hi + h1 + bo = h2) (hb1 : h1 < 4611686018427387904) (hb2 : h2 < 4611686018427387904) :
    Calls Tryz.prog 87 #[.agg #[.int .u64 (h1 : Int), .int .u64 (l1 : Int), .bool p], .agg #[.int .u64 (h2 : Int), .int .u64 (l2 : Int), .bool q]] w (RetW (.agg #[.int .u64 (hi : Int), .int .u64 (lo : Int), .bool (q && ((hi : Int) != 0 || (lo : Int) != 0))]) w) := by
  have X := (((Own.start w).alloc #[.int .u64 (h2 : Int), .int .u64 (l2 : Int), .bool q] 101).alloc #[.int .u64 (h1 : Int), .int .u64 (l1 : Int), .bool p] 101).alloc #[.int .u64 0, .int .u64 0, .bool false] 101
  simp only [World.size_alloc] at X
  have SA := sub64C l2 l1 lo bo hlo hbo
  obtain ⟨g, hg⟩ : ∃ g : Nat, h2 = g + h1 := ⟨h2 - h1, by omega⟩
  have E1 : IntKind.u64.wrap ((h2 : Int) - (h1 : Int)) = (g : Int) := by rw [IntKind.wrap_u64]; omega
  have E2 : IntKind.u64.wrap ((g : Int) - (bo : Int)) = (hi : Int) := by rw [IntKind.wrap_u64]; omega
  have SG := hide (fun W => signed_any (hi : Int) (lo : Int) q W)
  have hr := X.r3
  have n1 : w.heap.size < w.heap.size + 1 + 1 := by omega
  have ways : decide (h1 < h2) = true ∨ decide (h1 < h2) = false ∧ (((h1 : Int) == (h2 : Int)) = true ∧ decide (l1 < l2) = true) := by
    rcases hl with h | ⟨h, h'⟩
    · exact .inl (by simp [h])
    · exact .inr ⟨by simp; omega, by simp [h], by simp [h']⟩
  clear hlo hbo hhi hb1 hb2 hg hl
  rcases ways with d1 | ⟨d1, d2, d3⟩
  all_goals
    cases p <;> cases q
    all_goals try exact absurd rfl hpq
    all_goals
      clear hpq
      go_enter Tryz.func87, Tryz.ntmps87
      go_wp2_with fail
      refine (SG.out _).mono ?_
      rintro e w1 ⟨rfl, hb⟩
      replace X := X.to hb
      clear hr hb
      have hr := X.r3
      go_wp2
      refine bodyPost_ret (v := .agg #[.int .u64 (hi : Int), .int .u64 (lo : Int), .bool (_ && ((hi : Int) != 0 || (lo : Int) != 0))]) (by simp [results, Tryz.results87, hr, go_sem]) rfl ⟨rfl, ?_⟩
      exact below_set (below_set (below_set X.1 (by omega) _) (by omega) _) (by omega) _
set_option maxHeartbeats 4000000 in
theorem wssum_more (h1 l1 h2 l2 hi lo bo : Nat) (p q : Bool) (w : World) (hpq : p ≠ q) (hl : h2 < h1 ∨ h1 = h2 ∧ l2 ≤ l1) (hlo : lo = (l1 + 18446744073709551616 - l2) % 18446744073709551616) (hbo : bo = if l1 < l2 then 1 else 0) (hhi : hi + h2 + bo = h1) (hb1 : h1 < 4611686018427387904) (hb2 : h2 < 4611686018427387904) :
    Calls Tryz.prog 87 #[.agg #[.int .u64 (h1 : Int), .int .u64 (l1 : Int), .bool p], .agg #[.int .u64 (h2 : Int), .int .u64 (l2 : Int), .bool q]] w (RetW (.agg #[.int .u64 (hi : Int), .int .u64 (lo : Int), .bool (p && ((hi : Int) != 0 || (lo : Int) != 0))]) w) := by
  have X := (((Own.start w).alloc #[.int .u64 (h1 : Int), .int .u64 (l1 : Int), .bool p] 101).alloc #[.int .u64 (h2 : Int), .int .u64 (l2 : Int), .bool q] 101).alloc #[.int .u64 0, .int .u64 0, .bool false] 101
  simp only [World.size_alloc] at X
  have SA := sub64C l1 l2 lo bo hlo hbo
  obtain ⟨g, hg⟩ : ∃ g : Nat, h1 = g + h2 := ⟨h1 - h2, by omega⟩
  have E1 : IntKind.u64.wrap ((h1 : Int) - (h2 : Int)) = (g : Int) := by rw [IntKind.wrap_u64]; omega
  have E2 : IntKind.u64.wrap ((g : Int) - (bo : Int)) = (hi : Int) := by rw [IntKind.wrap_u64]; omega
  have SG := hide (fun W => signed_any (hi : Int) (lo : Int) p W)
  have hr := X.r3
  have n1 : w.heap.size < w.heap.size + 1 + 1 := by omega
  have ways : decide (h1 < h2) = false ∧ ((h1 : Int) == (h2 : Int)) = false ∨ decide (h1 < h2) = false ∧ (((h1 : Int) == (h2 : Int)) = true ∧ decide (l1 < l2) = false) := by
    rcases hl with h | ⟨h, h'⟩
    · exact .inl ⟨by simp; omega, by simp; omega⟩
    · exact .inr ⟨by simp; omega, by simp [h], by simp [h']⟩
  clear hlo hbo hhi hb1 hb2 hg hl
  rcases ways with ⟨d1, d2⟩ | ⟨d1, d2, d3⟩
  all_goals
    cases p <;> cases q
    all_goals try exact absurd rfl hpq
    all_goals
      clear hpq
      go_enter Tryz.func87, Tryz.ntmps87
      go_wp2_with fail
      refine (SG.out _).mono ?_
      rintro e w1 ⟨rfl, hb⟩
      replace X := X.to hb
      clear hr hb
      have hr := X.r3
      go_wp2
      refine bodyPost_ret (v := .agg #[.int .u64 (hi : Int), .int .u64 (lo : Int), .bool (_ && ((hi : Int) != 0 || (lo : Int) != 0))]) (by simp [results, Tryz.results87, hr, go_sem]) rfl ⟨rfl, ?_⟩
      exact below_set (below_set (below_set X.1 (by omega) _) (by omega) _) (by omega) _
theorem wssum_any (x y : Int) (w : World) (hx : wideB x) (hy : wideB y) : Calls Tryz.prog 87 #[WN x, WN y] w (RetW (WN (x + y)) w) := by
  obtain ⟨m, hm⟩ : ∃ m, m = x.natAbs := ⟨_, rfl⟩
  obtain ⟨n, hn⟩ : ∃ n, n = y.natAbs := ⟨_, rfl⟩
  have bm : m ≤ 1267650600228229401496703205376 := by have := hx.1; have := hx.2; omega
  have bn : n ≤ 1267650600228229401496703205376 := by have := hy.1; have := hy.2; omega
  have ex : WN x = .agg #[.int .u64 ((m / 18446744073709551616 : Nat) : Int), .int .u64 ((m % 18446744073709551616 : Nat) : Int), .bool (decide (x < 0))] := by rw [hm]
  have ey : WN y = .agg #[.int .u64 ((n / 18446744073709551616 : Nat) : Int), .int .u64 ((n % 18446744073709551616 : Nat) : Int), .bool (decide (y < 0))] := by rw [hn]
  rw [ex, ey]
  by_cases hpq : decide (x < 0) = decide (y < 0)
  · have hs : (x < 0 ∧ y < 0) ∨ (0 ≤ x ∧ 0 ≤ y) := by simp only [decide_eq_decide] at hpq; omega
    have e : WN (x + y) = _ := WN_of (m := m + n) (b := decide (x < 0)) (by omega) (fun _ => by rcases hs with h | h <;> simp <;> omega)
    rw [e, ← hpq]
    exact wssum_same _ _ _ _ _ _ ((m % 18446744073709551616 + n % 18446744073709551616) / 18446744073709551616) _ w (by omega) rfl (by omega) (by omega) (by omega) (by omega) (by omega)
  · have hs : (x < 0 ∧ 0 ≤ y) ∨ (0 ≤ x ∧ y < 0) := by simp only [decide_eq_decide] at hpq; omega
    by_cases hl : m < n
    · have e : WN (x + y) = _ := WN_of (m := n - m) (b := decide (y < 0)) (by omega) (fun _ => by rcases hs with h | h <;> simp <;> omega)
      rw [e]
      exact wssum_less _ _ _ _ _ _ (if n % 18446744073709551616 < m % 18446744073709551616 then 1 else 0) _ _ w hpq (by omega) (by omega) rfl (by split <;> omega) (by omega) (by omega)
    · have e : WN (x + y) = _ := WN_of (m := m - n) (b := decide (x < 0)) (by omega) (fun _ => by rcases hs with h | h <;> simp <;> omega)
      rw [e]
      exact wssum_more _ _ _ _ _ _ (if m % 18446744073709551616 < n % 18446744073709551616 then 1 else 0) _ _ w hpq (by omega) (by omega) rfl (by split <;> omega) (by omega) (by omega)
end Go.Proofs.YtbmocghfpcfmhaaGreatDoor

namespace Go.Proofs.YtbmocghfpcfmhaaGreatDoor
open Go Go.RowKit

section
variable {P : Program} {ops : Array Oper} {md : Region.Mode} {C : World → Prop} {n : Nat}
/-- so many picks, all out of the head, and then L -/
def picks (P : Program) (md : Region.Mode) (ops : Array Oper) (C : World → Prop) (n : Nat) (L : Array Bool → Act → Prop) : Nat → Array Bool → Act → Prop
  | 0, m, a => L m a
  | f + 1, m, a => Region.ready md ops m ≠ [] ∧ ∀ i ∈ Region.ready md ops m, i < n ∧ qOp P ops C i (picks P md ops C n L f (m.setIfInBounds i true)) a
theorem any_of_picks {L : Array Bool → Act → Prop} {g : Nat} {Q : Exit → Act → World → Prop} (h : ∀ m a w, C w → L m a → wpAny P md ops Q g m a w) (f : Nat) : ∀ m a w, C w → picks P md ops C n L f m a → wpAny P md ops Q (f + g) m a w := by
  induction f with
  | zero => intro m a w hw hp; rw [Nat.zero_add]; exact h m a w hw hp
  | succ f ih =>
    intro m a w hw hp
    rw [Nat.add_right_comm]
    refine ⟨fun e => absurd e hp.1, fun i hi => ?_⟩
    exact wpOp_of_qOp hw (fun a' w' hw' hp' => ih _ a' w' hw' hp') (hp.2 i hi).2
/-- what no longer waits for i -/
theorem not_on {m : Array Bool} {i j : Nat} (hi : i ∈ Region.ready md ops m) (hj : j ∈ Region.ready md ops m) : ∀ o, ops[j]? = some o → ∀ e ∈ o.after, Region.binds md e = true → e.on ≠ i := by
  intro o ho e he hb eq
  obtain ⟨_, o', ho', all⟩ := mem_ready.1 hj
  obtain rfl := Option.some.inj (ho.symm.trans ho')
  have q := all e he hb
  rw [eq, getD_both (mem_ready.1 hi).1] at q
  cases q
/-- one that may come up now may be taken first -/
theorem picks_take {L : Array Bool → Act → Prop} {i : Nat} {o : Oper} {v : Value} (ho : ops[i]? = some o) (hsel : Region.noSelect ops = true) (hsink : Region.sinkB md ops n = true) (hch : Region.chainB md ops n = true) (hn : n < ops.size) (hin : i < n)
    (hL : ∀ m a, L m a → ∀ j ∈ Region.ready md ops m, n ≤ j) (f : Nat) : ∀ m a, HeadInv md ops n m →
      (∀ j oj, ops[j]? = some oj → j ≠ i → m.getD j true = false → (∀ e ∈ oj.after, Region.binds md e = true → e.on ≠ i) → o.apart ops oj = true) →
      i ∈ Region.ready md ops m → YieldsIn P ops C o v a → picks P md ops C n L f (m.setIfInBounds i true) (a.put o.dst v) → picks P md ops C n L (f + 1) m a := by
  have sel := Region.noSelect_spec hsel
  induction f with
  | zero =>
    intro m a inv _ hi hy hp
    refine ⟨List.ne_nil_of_mem hi, fun j hj => ?_⟩
    by_cases e : j = i
    · subst e; exact ⟨hin, hy.qOp ho hp⟩
    · have h1 := hL _ _ hp j (ready_mono hj e)
      exact absurd hj (tail_waits hsink hch hn inv _ i rfl hin (mem_ready.1 hi).1 j h1)
  | succ f ih =>
    intro m a inv hap hi hy hp
    refine ⟨List.ne_nil_of_mem hi, fun j hj => ?_⟩
    by_cases e : j = i
    · subst e; exact ⟨hin, hy.qOp ho hp⟩
    · have hjn : j < n := Nat.lt_of_not_le fun h => tail_waits hsink hch hn inv _ i rfl hin (mem_ready.1 hi).1 j h hj
      obtain ⟨free, oj, hoj, _⟩ := mem_ready.1 hj
      have k := qOp_put hoj (hap j oj hoj e free (not_on hi hj oj hoj)) (fun cs b => sel i o cs b ho) (fun cs b => sel j oj cs b hoj) hy (hp.2 j (ready_mono hj e)).2
      refine ⟨hjn, qOp_mono (fun a' q => ih _ a' (inv.set hj hjn) (fun x ox hx hxi hxm hxe => ?_) (ready_mono hi (Ne.symm e)) q.1 ?_) k⟩
      · refine hap x ox hx hxi ?_ hxe
        by_cases ex : j = x
        · subst ex; exact free
        · rwa [getD_set_ne true ex] at hxm
      · rw [Array.setIfInBounds_comm _ _ e]; exact q.2
/-- the head in the order of the text -/
theorem picks_text {g : Nat} {T : Act → Prop} (hsel : Region.noSelect ops = true) (hsink : Region.sinkB md ops n = true) (hch : Region.chainB md ops n = true) (hn : n < ops.size) :
    ∀ (l : List Oper) (k : Nat) (m : Array Bool) (a : Act), (∀ j, j < l.length → l[j]? = ops[k + j]?) → k + l.length = n → HeadInv md ops n m → Region.lexHead md ops g l.length k m = true → wpQuiet P ops C T l a →
      picks P md ops C n (fun m' a' => Region.seqB md ops g n m' = true ∧ T a') l.length m a := by
  intro l
  induction l with
  | nil =>
    intro k m a _ hk _ hb hq
    obtain rfl : k = n := by simpa using hk
    exact ⟨by simpa [Region.lexHead] using hb, hq⟩
  | cons o l ih =>
    intro k m a hl hk inv hb hq
    have ho : ops[k]? = some o := by simpa using (hl 0 (by simp)).symm
    rw [List.length_cons] at hk
    simp only [List.length_cons, Region.lexHead, Bool.and_eq_true] at hb
    obtain ⟨⟨hr, hf⟩, hb⟩ := hb
    have hr : k ∈ Region.ready md ops m := by simpa using hr
    obtain ⟨v, hy, hrest⟩ := yieldsIn_of_qOp ho (show qOp P ops C k (wpQuiet P ops C T l) a by unfold qOp; rw [ho]; exact hq)
    refine picks_take ho hsel hsink hch hn (by omega) (fun m' a' h => seqB_ready h.1) l.length m a inv (Region.free_spec ho hf) hr hy ?_
    exact ih (k + 1) _ _ (fun j hj => by have := hl (j + 1) (by simpa using hj); rw [Nat.add_assoc, Nat.add_comm 1 j]; simpa using this) (by omega) (inv.set hr (by omega)) hb hrest
end
/-- a region whose last operations wait for all the others, which only read or call: in the order of the text -/
theorem wp_region_qtail {P : Program} {C : World → Prop} {id : Nat} {Q : Exit → Act → World → Prop} {a : Act} {w : World} {l : List Oper} (n : Nat) (hB : Region.lexTailB .any l.toArray n = true) (hm : P.follows .mixedOrders = true) (hC : C w.drew)
    (h : wpQuiet P l.toArray C (fun a' => ∀ w', C w' → wpList P l.toArray Q (l.drop n) a' w') (l.take n) a) : (Code.region id l.toArray true).wp P Q a w := by
  simp only [Region.lexTailB, Bool.and_eq_true, decide_eq_true_eq] at hB
  obtain ⟨⟨⟨⟨hsel, hn⟩, hs⟩, hc⟩, hx⟩ := hB
  have hn' : n < l.length := by simpa using hn
  have ht : (l.take n).length = n := by rw [List.length_take]; omega
  have hd : (l.drop n).length = l.toArray.size - n := by simp
  have inv : HeadInv .any l.toArray n (Array.replicate l.toArray.size false) :=
    ⟨by simp, fun j oj _ hl => (by rw [getD_replicate_false] at hl; cases hl), fun t _ ht => getD_in (by simpa using ht) (getD_replicate_false _ _)⟩
  have H := picks_text (md := .any) (g := l.toArray.size - n) hsel hs hc hn (l.take n) 0 _ a (fun j hj => by
    rw [ht] at hj
    simp [hj]) (by omega) inv (by rw [ht]; exact hx) h
  refine wp_region_any hm ?_
  have K := any_of_picks (Q := Q) (g := l.toArray.size - n) (fun m a' w' hw' hL => by
    have := wpAny_of_seq (md := .any) (Q' := Q) (l.drop n) n m a' w' (fun j => by simp [List.getElem?_drop]) (by rw [hd]; exact hL.1) (hL.2 w' hw')
    rwa [hd] at this) _ _ _ { w with drawn := w.drawn + 1 } hC H
  rw [ht, show n + (l.toArray.size - n) = l.toArray.size by omega] at K
  exact K
/-- the same at the class of the worlds in which the call's own blocks are whole -/
theorem wp_region_own_tail {P : Program} {id : Nat} {Q : Exit → Act → World → Prop} {a : Act} {w W : World} {L : List (Nat × TypeId × Array Value)} {l : List Oper} (n : Nat) (hB : Region.lexTailB .any l.toArray n = true) (hm : P.follows .mixedOrders = true) (hX : Own w W L)
    (h : wpQuiet P l.toArray (fun W' => ∃ x : OwnW w L, W' = x.W) (fun a' => ∀ W', (∃ x : OwnW w L, W' = x.W) → wpList P l.toArray Q (l.drop n) a' W') (l.take n) a) : (Code.region id l.toArray true).wp P Q a W :=
  wp_region_qtail n hB hm ⟨⟨W.drew, hX.drew⟩, rfl⟩ h
end Go.Proofs.YtbmocghfpcfmhaaGreatDoor

namespace Go.Proofs.YtbmocghfpcfmhaaGreatDoor
open Go Go.RowKit

theorem ownw_r1 {w W : World} {b0 : Nat} {t0 : TypeId} {c0 : Array Value} {L} (_ : Own w W ((b0, t0, c0) :: L)) (x : OwnW w ((b0, t0, c0) :: L)) :
    (∀ i, x.W.cell? ⟨b0, i, none⟩ = c0[i]?) ∧ (∀ i, x.W.frozen? ⟨b0, i, none⟩ = false) ∧ b0 < x.W.heap.size := x.own.r1
theorem ownw_r2 {w W : World} {b0 b1 : Nat} {t0 t1 : TypeId} {c0 c1 : Array Value} {L} (_ : Own w W ((b0, t0, c0) :: (b1, t1, c1) :: L)) (x : OwnW w ((b0, t0, c0) :: (b1, t1, c1) :: L)) :
    ((∀ i, x.W.cell? ⟨b0, i, none⟩ = c0[i]?) ∧ (∀ i, x.W.frozen? ⟨b0, i, none⟩ = false) ∧ b0 < x.W.heap.size) ∧
    ((∀ i, x.W.cell? ⟨b1, i, none⟩ = c1[i]?) ∧ (∀ i, x.W.frozen? ⟨b1, i, none⟩ = false) ∧ b1 < x.W.heap.size) := x.own.r2
theorem ownw_r3 {w W : World} {b0 b1 b2 : Nat} {t0 t1 t2 : TypeId} {c0 c1 c2 : Array Value} {L} (_ : Own w W ((b0, t0, c0) :: (b1, t1, c1) :: (b2, t2, c2) :: L)) (x : OwnW w ((b0, t0, c0) :: (b1, t1, c1) :: (b2, t2, c2) :: L)) :
    ((∀ i, x.W.cell? ⟨b0, i, none⟩ = c0[i]?) ∧ (∀ i, x.W.frozen? ⟨b0, i, none⟩ = false) ∧ b0 < x.W.heap.size) ∧
    ((∀ i, x.W.cell? ⟨b1, i, none⟩ = c1[i]?) ∧ (∀ i, x.W.frozen? ⟨b1, i, none⟩ = false) ∧ b1 < x.W.heap.size) ∧
    ((∀ i, x.W.cell? ⟨b2, i, none⟩ = c2[i]?) ∧ (∀ i, x.W.frozen? ⟨b2, i, none⟩ = false) ∧ b2 < x.W.heap.size) := x.own.r3
theorem ownw_r4 {w W : World} {b0 b1 b2 b3 : Nat} {t0 t1 t2 t3 : TypeId} {c0 c1 c2 c3 : Array Value} {L} (_ : Own w W ((b0, t0, c0) :: (b1, t1, c1) :: (b2, t2, c2) :: (b3, t3, c3) :: L)) (x : OwnW w ((b0, t0, c0) :: (b1, t1, c1) :: (b2, t2, c2) :: (b3, t3, c3) :: L)) :
    ((∀ i, x.W.cell? ⟨b0, i, none⟩ = c0[i]?) ∧ (∀ i, x.W.frozen? ⟨b0, i, none⟩ = false) ∧ b0 < x.W.heap.size) ∧
    ((∀ i, x.W.cell? ⟨b1, i, none⟩ = c1[i]?) ∧ (∀ i, x.W.frozen? ⟨b1, i, none⟩ = false) ∧ b1 < x.W.heap.size) ∧
    ((∀ i, x.W.cell? ⟨b2, i, none⟩ = c2[i]?) ∧ (∀ i, x.W.frozen? ⟨b2, i, none⟩ = false) ∧ b2 < x.W.heap.size) ∧
    ((∀ i, x.W.cell? ⟨b3, i, none⟩ = c3[i]?) ∧ (∀ i, x.W.frozen? ⟨b3, i, none⟩ = false) ∧ b3 < x.W.heap.size) := x.own.r4
theorem ownw_old {w W : World} {L} {b o : Nat} {v : Value} (_ : Own w W L) (hb : b < w.heap.size) (hc : w.cell? ⟨b, o, none⟩ = some v) (x : OwnW w L) : x.W.cell? ⟨b, o, none⟩ = some v := (x.own.1.cell (p := ⟨b, o, none⟩) hb).trans hc
theorem ownw_ne {w W : World} {L} (h : Own w W L) : Nonempty (OwnW w L) := ⟨⟨_, h⟩⟩
set_option maxHeartbeats 2000000 in
theorem wsadd_any (x y : Int) (w : World) (hx : wideB x) (hy : wideB y) (hz : wideB (x + y)) : Calls Tryz.prog 47 #[WV x, WV y] w (RetW (.tuple #[WV (x + y), .int .i64 0]) w) := by
  have V1 := hide (fun W => wsvalid_any x W hx)
  have V2 := hide (fun W => wsvalid_any y W hy)
  have U1 := hide (fun W => wsvalue_any x W hx)
  have U2 := hide (fun W => wsvalue_any y W hy)
  have SM := hide (fun W => wssum_any x y W hx hy)
  have PL := hide (fun W => wsplaced_any (x + y) W hz)
  unfold RetW at V1 V2 U1 U2 SM PL
  clear hx hy hz
  generalize x + y = z at *
  have X := (((Own.start w).alloc #[.int .i64 (x / 1152921504606846976), .int .i64 (x % 1152921504606846976)] 84).alloc #[.int .i64 (y / 1152921504606846976), .int .i64 (y % 1152921504606846976)] 84).alloc #[.int .i64 0, .int .i64 0] 84
  simp only [World.size_alloc] at X
  unfold WV at *
  generalize x / 1152921504606846976 = x1 at *
  generalize x % 1152921504606846976 = x2 at *
  generalize y / 1152921504606846976 = y1 at *
  generalize y % 1152921504606846976 = y2 at *
  generalize z / 1152921504606846976 = z1 at *
  generalize z % 1152921504606846976 = z2 at *
  unfold WN at *
  generalize ((x.natAbs / 18446744073709551616 : Nat) : Int) = xh at *
  generalize ((x.natAbs % 18446744073709551616 : Nat) : Int) = xl at *
  generalize decide (x < 0) = xn at *
  generalize ((y.natAbs / 18446744073709551616 : Nat) : Int) = yh at *
  generalize ((y.natAbs % 18446744073709551616 : Nat) : Int) = yl at *
  generalize decide (y < 0) = yn at *
  generalize ((z.natAbs / 18446744073709551616 : Nat) : Int) = zh at *
  generalize ((z.natAbs % 18446744073709551616 : Nat) : Int) = zl at *
  generalize decide (z < 0) = zn at *
  have n1 : w.heap.size < w.heap.size + 1 + 1 := by omega
  have hr := X.r3
  go_enter Tryz.func47, Tryz.ntmps47
  go_wp2_with fail
  refine (V1.out _).mono ?_
  rintro e w1 ⟨rfl, hb⟩
  replace X := X.to hb
  clear hr hb
  have hr := X.r3
  go_wp2_with fail
  refine (V2.out _).mono ?_
  rintro e w2 ⟨rfl, hb⟩
  replace X := X.to hb
  clear hr hb
  have hr := X.r3
  go_wp2
  have NE := ownw_ne X
  have C1 := ownw_r3 X
  refine wp_region_own_tail (w := w) 8 (by kernel_rfl) (by kernel_rfl) X ?_
  simp only [List.take_succ_cons, List.take_zero, List.drop_succ_cons, List.drop_zero]
  repeat (go_big_quiet_step ((rename_i y; first | with_reducible exact own_call (U1.out _) | with_reducible exact own_call (U2.out _) | with_reducible exact own_call (SM.out _) | with_reducible exact own_call (PL.out _))))
  refine wpQuiet_nil ?_
  rintro W ⟨⟨W, HO⟩, rfl⟩
  have hr := HO.r3
  go_wp2
  refine bodyPost_ret (v := .tuple #[.agg #[.int .i64 z1, .int .i64 z2], .int .i64 0]) (by simp [results, Tryz.results47, hr, go_sem]) rfl ⟨rfl, ?_⟩
  exact below_set (below_set HO.1 (by omega) _) (by omega) _
end Go.Proofs.YtbmocghfpcfmhaaGreatDoor

namespace Go.Proofs.YtbmocghfpcfmhaaGreatDoor
open Go Go.RowKit

set_option maxHeartbeats 1000000 in
theorem wsproduct_any (a b : Int) (w : World) (h1 : -9223372036854775808 ≤ a ∧ a ≤ 9223372036854775807) (h2 : -9223372036854775808 ≤ b ∧ b ≤ 9223372036854775807) (h : wideB (a * b)) :
    Calls Tryz.prog 46 #[.int .i64 a, .int .i64 b] w (RetW (.tuple #[WV (a * b), .int .i64 0]) w) := by
  have X := (Own.start w).alloc #[.int .i64 0, .int .i64 0] 84
  have T := hide (fun W => times_any a b W h1.1 h1.2 h2.1 h2.2)
  have P := hide (fun W => wsplaced_any (a * b) W h)
  unfold RetW at P
  clear h1 h2 h
  generalize a * b = v at *
  unfold WV at *
  generalize v / 1152921504606846976 = v1 at *
  generalize v % 1152921504606846976 = v2 at *
  unfold WN at *
  generalize ((v.natAbs / 18446744073709551616 : Nat) : Int) = vh at *
  generalize ((v.natAbs % 18446744073709551616 : Nat) : Int) = vl at *
  generalize decide (v < 0) = vn at *
  go_enter Tryz.func46, Tryz.ntmps46
  go_wp2_with fail
  refine (T.out _).mono ?_
  rintro e w1 ⟨rfl, hb⟩
  replace X := X.to hb
  clear hb
  have hr := X.r1
  go_wp2_with fail
  refine (P.out _).mono ?_
  rintro e w2 ⟨rfl, hb⟩
  replace X := X.to hb
  clear hb hr
  have hr := X.r1
  go_wp2
  refine bodyPost_ret (v := .tuple #[.agg #[.int .i64 v1, .int .i64 v2], .int .i64 0]) (by simp [results, Tryz.results46, hr, go_sem]) rfl ⟨rfl, ?_⟩
  exact below_set (below_set X.1 (by omega) _) (by omega) _
set_option maxHeartbeats 1000000 in
theorem wsdivided_any (v b : Int) (u : Bool) (w : World) (h : wideB v) (hb0 : b ≠ 0) (h1 : -9223372036854775808 ≤ b ∧ b ≤ 9223372036854775807) :
    Calls Tryz.prog 151 #[WV v, .int .i64 b, .bool u] w (RetW (.tuple #[.int .i64 (i64V (quo v b u)), .int .i64 (i64E (quo v b u))]) w) := by
  have g : (b == 0) = false := beq_eq_false_iff_ne.2 hb0
  have X := (Own.start w).alloc #[.int .i64 (v / 1152921504606846976), .int .i64 (v % 1152921504606846976)] 84
  have V := hide (fun W => wsvalid_any v W h)
  have U := hide (fun W => wsvalue_any v W h)
  have Q := hide (fun W => quotient_full (v := v) hb0 u W h1.1 h1.2)
  unfold RetW at V U
  unfold QuoPost at Q
  clear h hb0 h1
  generalize i64V (quo v b u) = r1 at *
  generalize i64E (quo v b u) = r2 at *
  unfold WV at *
  generalize v / 1152921504606846976 = v1 at *
  generalize v % 1152921504606846976 = v2 at *
  unfold WN at *
  generalize ((v.natAbs / 18446744073709551616 : Nat) : Int) = vh at *
  generalize ((v.natAbs % 18446744073709551616 : Nat) : Int) = vl at *
  generalize decide (v < 0) = vn at *
  go_enter Tryz.func151, Tryz.ntmps151
  go_wp2_with fail
  refine (V.out _).mono ?_
  rintro e w1 ⟨rfl, hb⟩
  replace X := X.to hb
  clear hb
  have hr := X.r1
  go_wp2_with fail
  refine (U.out _).mono ?_
  rintro e w2 ⟨rfl, hb⟩
  replace X := X.to hb
  clear hb hr
  have hr := X.r1
  go_wp2_with fail
  refine (Q.out _).mono ?_
  rintro e w3 ⟨rfl, hb⟩
  replace X := X.to hb
  clear hb hr
  go_wp2
  go_ret2
  exact ⟨rfl, X.1⟩
set_option maxHeartbeats 1000000 in
theorem wsfloor_any (v b : Int) (w : World) (h : wideB v) (hb0 : b ≠ 0) (h1 : -9223372036854775808 ≤ b ∧ b ≤ 9223372036854775807) :
    Calls Tryz.prog 139 #[WV v, .int .i64 b] w (RetW (.tuple #[.int .i64 (i64V (dn v b)), .int .i64 (i64E (dn v b))]) w) := by
  have X := (Own.start w).alloc #[.int .i64 (v / 1152921504606846976), .int .i64 (v % 1152921504606846976)] 84
  have Q := hide (fun W => wsdivided_any v b false W h hb0 h1)
  unfold RetW at Q
  rw [show quo v b false = dn v b from rfl] at Q
  clear h hb0 h1
  generalize i64V (dn v b) = r1 at *
  generalize i64E (dn v b) = r2 at *
  unfold WV at *
  generalize v / 1152921504606846976 = v1 at *
  generalize v % 1152921504606846976 = v2 at *
  go_enter Tryz.func139, Tryz.ntmps139
  go_wp2_with fail
  refine (Q.out _).mono ?_
  rintro e w3 ⟨rfl, hb⟩
  replace X := X.to hb
  clear hb
  go_wp2
  go_ret2
  exact ⟨rfl, X.1⟩
set_option maxHeartbeats 1000000 in
theorem wsceil_any (v b : Int) (w : World) (h : wideB v) (hb0 : b ≠ 0) (h1 : -9223372036854775808 ≤ b ∧ b ≤ 9223372036854775807) :
    Calls Tryz.prog 140 #[WV v, .int .i64 b] w (RetW (.tuple #[.int .i64 (i64V (up v b)), .int .i64 (i64E (up v b))]) w) := by
  have X := (Own.start w).alloc #[.int .i64 (v / 1152921504606846976), .int .i64 (v % 1152921504606846976)] 84
  have Q := hide (fun W => wsdivided_any v b true W h hb0 h1)
  unfold RetW at Q
  rw [show quo v b true = up v b from rfl] at Q
  clear h hb0 h1
  generalize i64V (up v b) = r1 at *
  generalize i64E (up v b) = r2 at *
  unfold WV at *
  generalize v / 1152921504606846976 = v1 at *
  generalize v % 1152921504606846976 = v2 at *
  go_enter Tryz.func140, Tryz.ntmps140
  go_wp2_with fail
  refine (Q.out _).mono ?_
  rintro e w3 ⟨rfl, hb⟩
  replace X := X.to hb
  clear hb
  go_wp2
  go_ret2
  exact ⟨rfl, X.1⟩
set_option maxHeartbeats 1000000 in
theorem wsint_any (v : Int) (w : World) (h : wideB v) : Calls Tryz.prog 48 #[WV v] w (RetW (.tuple #[.int .i64 (i64V v), .int .i64 (i64E v)]) w) := by
  have X := (Own.start w).alloc #[.int .i64 (v / 1152921504606846976), .int .i64 (v % 1152921504606846976)] 84
  have V := hide (fun W => wsvalid_any v W h)
  have U := hide (fun W => wsvalue_any v W h)
  unfold RetW at V U
  have e0 : v = sgn (v.natAbs : Int) (decide (v < 0)) := by
    unfold sgn
    by_cases k : v < 0 <;> simp [k] <;> omega
  by_cases k : v.natAbs < 18446744073709551616
  · obtain ⟨m, hm⟩ : ∃ m, m = v.natAbs := ⟨_, rfl⟩
    have W1 := hide (fun W => whole_any (m : Int) (decide (v < 0)) W (by omega) (by omega))
    rw [hm, ← e0] at W1
    have eN : WN v = .agg #[.int .u64 0, .int .u64 (v.natAbs : Int), .bool (decide (v < 0))] := by
      unfold WN
      rw [Nat.div_eq_of_lt k, Nat.mod_eq_of_lt k]
      rfl
    rw [eN] at U
    clear h e0 k eN hm
    generalize i64V v = r1 at *
    generalize i64E v = r2 at *
    unfold WV at *
    generalize v / 1152921504606846976 = v1 at *
    generalize v % 1152921504606846976 = v2 at *
    generalize (v.natAbs : Int) = vl at *
    generalize decide (v < 0) = vn at *
    go_enter Tryz.func48, Tryz.ntmps48
    go_wp2_with fail
    refine (V.out _).mono ?_
    rintro e w1 ⟨rfl, hb⟩
    replace X := X.to hb
    clear hb
    have hr := X.r1
    go_wp2_with fail
    refine (U.out _).mono ?_
    rintro e w2 ⟨rfl, hb⟩
    replace X := (X.to hb).alloc #[.int .u64 0, .int .u64 vl, .bool vn] 101
    clear hb hr
    have hr := X.r2
    go_wp2_with fail
    refine (W1.out _).mono ?_
    rintro e w3 ⟨rfl, rfl⟩
    go_wp2
    go_ret2
    exact ⟨rfl, X.1⟩
  · have hB : i64B v = false := by
      cases e : i64B v with
      | false => rfl
      | true => have := i64B_iff.1 e; omega
    have E := i64_no hB
    have hh : 0 < v.natAbs / 18446744073709551616 := by omega
    have hh2 : ((v.natAbs / 18446744073709551616 : Nat) : Int) > 0 := by omega
    rw [E.1, E.2]
    clear h e0 k hB E hh
    unfold WN WV at *
    generalize v / 1152921504606846976 = v1 at *
    generalize v % 1152921504606846976 = v2 at *
    generalize ((v.natAbs / 18446744073709551616 : Nat) : Int) = vh at *
    generalize ((v.natAbs % 18446744073709551616 : Nat) : Int) = vl at *
    generalize decide (v < 0) = vn at *
    go_enter Tryz.func48, Tryz.ntmps48
    go_wp2_with fail
    refine (V.out _).mono ?_
    rintro e w1 ⟨rfl, hb⟩
    replace X := X.to hb
    clear hb
    have hr := X.r1
    go_wp2_with fail
    refine (U.out _).mono ?_
    rintro e w2 ⟨rfl, hb⟩
    replace X := (X.to hb).alloc #[.int .u64 vh, .int .u64 vl, .bool vn] 101
    clear hb hr
    have hr := X.r2
    go_wp2
    go_ret2
    exact ⟨rfl, X.1⟩
set_option maxHeartbeats 1000000 in
theorem wsof_any (n : Int) (w : World) (h1 : -9223372036854775808 ≤ n ∧ n ≤ 9223372036854775807) : Calls Tryz.prog 45 #[.int .i64 n] w (RetW (WV n) w) := by
  have X := (Own.start w).alloc #[.int .i64 0, .int .i64 0] 84
  have SZ := hide (fun W => wsize_any n W h1.1 h1.2)
  have SG := hide (fun W => signed_any 0 (n.natAbs : Int) (decide (n < 0)) W)
  have PL := hide (fun W => wsplaced_any n W ⟨by omega, by omega⟩)
  have eN : WN n = .agg #[.int .u64 0, .int .u64 (n.natAbs : Int), .bool (decide (n < 0) && ((0 : Int) != 0 || (n.natAbs : Int) != 0))] := by
    have k : n.natAbs < 18446744073709551616 := by omega
    have := WN_of (x := n) (m := n.natAbs) (b := decide (n < 0)) rfl (fun _ => rfl)
    rw [Nat.div_eq_of_lt k, Nat.mod_eq_of_lt k] at this
    exact this
  rw [eN] at PL
  unfold RetW at PL
  clear h1 eN
  unfold WV at *
  generalize n / 1152921504606846976 = v1 at *
  generalize n % 1152921504606846976 = v2 at *
  go_enter Tryz.func45, Tryz.ntmps45
  go_wp2_with fail
  refine (SZ.out _).mono ?_
  rintro e w' ⟨rfl, rfl⟩
  go_wp2_with fail
  refine (SG.out _).mono ?_
  rintro e w1 ⟨rfl, hb⟩
  replace X := X.to hb
  clear hb
  have hr := X.r1
  go_wp2_with fail
  refine (PL.out _).mono ?_
  rintro e w2 ⟨rfl, hb⟩
  replace X := (X.to hb).alloc #[.int .i64 v1, .int .i64 v2] 84
  clear hb hr
  have hr := X.r2
  go_wp2
  refine bodyPost_ret (v := .agg #[.int .i64 v1, .int .i64 v2]) (by simp [results, Tryz.results45, hr, go_sem]) rfl ⟨rfl, ?_⟩
  exact below_set (below_set X.1 (by omega) _) (by omega) _
end Go.Proofs.YtbmocghfpcfmhaaGreatDoor

namespace Go.Proofs.YtbmocghfpcfmhaaGreatDoor
open Go Go.RowKit

/-- a slice of points that reads as a list -/
def PntSl (w : World) (A : Option Addr) (l : List Pnt) : Prop :=
  l.length ≤ 9223372036854775807 ∧ (0 < l.length → ∃ b off, A = some ⟨b, off, none⟩ ∧ b < w.heap.size ∧ ∀ i (h : i < l.length), w.cell? ⟨b, off + i * 2, none⟩ = some (.int .i64 l[i].x) ∧ w.cell? ⟨b, off + i * 2 + 1, none⟩ = some (.int .i64 l[i].y))
theorem PntSl.below {w w' : World} {A : Option Addr} {l : List Pnt} (h : PntSl w A l) (hb : Below w.heap.size w w') : PntSl w' A l :=
  ⟨h.1, fun hl => by
    obtain ⟨b, off, e, hlt, hat⟩ := h.2 hl
    have k := fun (i : Nat) => hb.cell (p := ⟨b, i, none⟩) hlt
    exact ⟨b, off, e, Nat.lt_of_lt_of_le hlt hb.size, fun i hi => ⟨(k _).trans (hat i hi).1, (k _).trans (hat i hi).2⟩⟩⟩
def idxQ (p : Pnt → Bool) (l : List Pnt) : Int := match l.findIdx? p with | some i => (i : Int) | none => -1
theorem idxQ_no {p : Pnt → Bool} {l : List Pnt} (h : ∀ i (hi : i < l.length), p l[i] = false) : idxQ p l = -1 := by
  have : l.findIdx? p = none := by
    rw [List.findIdx?_eq_none_iff]
    intro x hx
    obtain ⟨i, hi, rfl⟩ := List.mem_iff_getElem.1 hx
    exact h i hi
  simp [idxQ, this]
theorem idxQ_yes {p : Pnt → Bool} {l : List Pnt} {k : Nat} (hk : k < l.length) (h : ∀ i (hi : i < l.length), i < k → p l[i] = false) (hy : p l[k] = true) : idxQ p l = k := by
  have : l.findIdx? p = some k := by
    rw [List.findIdx?_eq_some_iff_getElem]
    exact ⟨hk, hy, fun j hj => by rw [h j (by omega) hj]; simp⟩
  simp [idxQ, this]
theorem any_idxQ (p : Pnt → Bool) (l : List Pnt) : l.any p = decide (0 ≤ idxQ p l) := by
  unfold idxQ
  cases h : l.findIdx? p with
  | none =>
    rw [List.findIdx?_eq_none_iff] at h
    rw [Bool.eq_iff_iff]
    simp only [List.any_eq_true, decide_eq_true_eq]
    constructor
    · rintro ⟨x, hx, hp⟩
      rw [h x hx] at hp
      cases hp
    · intro h'
      omega
  | some i =>
    rw [List.findIdx?_eq_some_iff_getElem] at h
    obtain ⟨hi, hp, _⟩ := h
    rw [Bool.eq_iff_iff]
    simp only [List.any_eq_true, decide_eq_true_eq]
    exact ⟨fun _ => by omega, fun _ => ⟨l[i], List.getElem_mem hi, hp⟩⟩
set_option maxRecDepth 100000 in
set_option maxHeartbeats 2000000 in
theorem idxQ_any (f : Nat) (q : Pnt → Bool) (hf : ∀ (d : Pnt) (W : World), Calls Tryz.prog f #[d.val] W (RetW (.bool (q d)) W)) (hc : ∀ (d : Pnt) (w : World), (callFunc f #[d.val]).run Tryz.prog w = .ok (.enter f #[d.val]) w) (l : List Pnt) (A : Option Addr) (cap : Nat) (w : World) (hl : PntSl w A l) :
    Calls Tryz.prog 141 #[.slice A l.length cap, .func (.func f) #[] #[]] w (RetW (.int .i64 (idxQ q l)) w) := by
  have hlen : l.length ≤ 9223372036854775807 := hl.1
  have H := hide hl
  have CK := hide hf
  unfold RetW at CK
  clear hl hf
  go_enter Tryz.func141, Tryz.ntmps141
  go_wp2
  go_loopw [8] (fun v8 wr => ∃ k : Nat, k ≤ l.length ∧ v8 = .int .i64 k ∧ Hid (Below w.heap.size w wr) ∧ Hid (∀ i (hi : i < l.length), i < k → q l[i] = false)) (fun v8 _ => l.length - (intOf v8).toNat)
  case atStart => exact ⟨0, Nat.zero_le _, rfl, hide (Below.refl _ _), hide (fun _ _ h => by omega)⟩
  case round =>
    obtain ⟨k, hk, rfl, HW, hno⟩ := hrel
    by_cases hlt : k < l.length
    · obtain ⟨b, off, rfl, hbl, hat⟩ := (H.out.below HW.out).2 (by omega)
      obtain ⟨c0, c1⟩ := hat k hlt
      have CKk := hide (fun W => CK.out l[k] W)
      clear hat
      by_cases hs : q l[k] = true
      · have E := hide (idxQ_yes (p := q) hlt (fun i hi hik => hno.out i hi hik) hs)
        rw [hs] at CKk
        clear hs
        generalize l[k] = o at *
        go_wp2_with fail
        refine (CKk.out _).mono ?_
        rintro e w' ⟨rfl, hb⟩
        go_wp2
        go_ret
        exact ⟨ret_int E.out.symm, below_via HW.out HW.out.size hb⟩
      · have hs : q l[k] = false := by simpa using hs
        have hno2 := hide (fun i (hi : i < l.length) (hik : i < k + 1) => (show q l[i] = false by
          by_cases e : i = k
          · subst e; exact hs
          · exact hno.out i hi (by omega)))
        rw [hs] at CKk
        clear hs
        generalize l[k] = o at *
        go_wp2_with fail
        refine (CKk.out _).mono ?_
        rintro e w' ⟨rfl, hb⟩
        have HW2 := hide (below_via HW.out HW.out.size hb)
        clear hb
        go_wp2
        go_roundw
        case rel => exact ⟨k + 1, by omega, by go_num, HW2, hno2⟩
        case measure => simp [intOf]; omega
    · go_wp2
      go_ret
      exact ⟨ret_int (idxQ_no fun i hi => hno.out i hi (by omega)).symm, HW.out⟩
set_option maxHeartbeats 1000000 in
theorem contQ_any (f : Nat) (q : Pnt → Bool) (hf : ∀ (d : Pnt) (W : World), Calls Tryz.prog f #[d.val] W (RetW (.bool (q d)) W)) (hc : ∀ (d : Pnt) (w : World), (callFunc f #[d.val]).run Tryz.prog w = .ok (.enter f #[d.val]) w) (l : List Pnt) (A : Option Addr) (cap : Nat) (w : World) (hl : PntSl w A l) :
    Calls Tryz.prog 110 #[.slice A l.length cap, .func (.func f) #[] #[]] w (RetW (.bool (l.any q)) w) := by
  have C := hide (idxQ_any f q hf hc l A cap w hl)
  have H := hide (any_idxQ q l)
  unfold RetW at C
  clear hf hl
  go_enter Tryz.func110, Tryz.ntmps110
  go_wp2_with fail
  refine C.out.mono ?_
  rintro e w' ⟨rfl, hb⟩
  go_wp2
  go_ret
  exact ⟨ret_bool H.out.symm, hb⟩
set_option maxHeartbeats 1000000 in
theorem plall1_any (p : Pnt) (w : World) : Calls Tryz.prog 111 #[p.val] w (RetW (.bool (!inP p)) w) := by
  have X := (Own.start w).alloc #[.int .i64 p.x, .int .i64 p.y] 27
  have hr := X.r1
  have PV := hide (fun W => plvalid_any p W)
  unfold RetW at PV
  go_enter Tryz.func111, Tryz.ntmps111
  go_wp2_with fail
  refine (PV.out _).mono ?_
  rintro e w1 ⟨rfl, hb⟩
  have XB := (X.to hb).1
  clear hb hr
  go_wp2
  go_ret
  exact ⟨rfl, XB⟩
set_option maxHeartbeats 1000000 in
theorem plall_any (l : List Pnt) (A : Option Addr) (cap : Nat) (w : World) (hl : PntSl w A l) : Calls Tryz.prog 56 #[.slice A l.length cap] w (RetW (.bool (l.all inP)) w) := by
  have C := hide (contQ_any 111 (fun p => !inP p) plall1_any (fun d w => enters_of Tryz.func111 (by kernel_rfl) rfl _ w) l A cap w hl)
  have E : Hid ((!(l.any fun p => !inP p)) = l.all inP) := hide (by rw [List.any_eq_not_all_not]; simp)
  unfold RetW at C
  clear hl
  generalize (l.any fun p => !inP p) = b at *
  go_enter Tryz.func56, Tryz.ntmps56
  go_wp2_with fail
  refine C.out.mono ?_
  rintro e w' ⟨rfl, hb⟩
  go_wp2
  go_ret
  exact ⟨ret_bool E.out, hb⟩
set_option maxHeartbeats 1000000 in
theorem plsquare_any (a b : Pnt) (w : World) (ha : a.in) (hb : b.in) : Calls Tryz.prog 57 #[a.val, b.val] w (RetW (.int .i64 (sqD a b)) w) := by
  have X := ((Own.start w).alloc #[.int .i64 a.x, .int .i64 a.y] 27).alloc #[.int .i64 b.x, .int .i64 b.y] 27
  simp only [World.size_alloc] at X
  have hr := X.r2
  have XB := hide X.1
  obtain ⟨⟨m1, m2⟩, m3⟩ := sqD_bd ha hb
  obtain ⟨⟨a1, a2⟩, a3, a4⟩ := ha
  obtain ⟨⟨b1, b2⟩, b3, b4⟩ := hb
  have E : Hid (sqD a b = (a.x - b.x) * (a.x - b.x) + (a.y - b.y) * (a.y - b.y)) := hide rfl
  generalize sqD a b = t at *
  have e1 := IntWalk.i64_in (a.x - b.x) (by omega)
  have e2 := IntWalk.i64_in (a.y - b.y) (by omega)
  obtain ⟨p, hp⟩ : ∃ p, p = (a.x - b.x) * (a.x - b.x) := ⟨_, rfl⟩
  obtain ⟨q, hq⟩ : ∃ q, q = (a.y - b.y) * (a.y - b.y) := ⟨_, rfl⟩
  rw [← hp, ← hq] at E
  rw [← hp] at m1
  rw [← hq] at m2
  have w1 : IntKind.i64.wrap ((a.x - b.x) * (a.x - b.x)) = p := by rw [← hp]; exact IntWalk.i64_in _ (by omega)
  have w2 : IntKind.i64.wrap ((a.y - b.y) * (a.y - b.y)) = q := by rw [← hq]; exact IntWalk.i64_in _ (by omega)
  have w3 := IntWalk.i64_in (p + q) (by omega)
  clear hp hq X m3
  go_enter Tryz.func57, Tryz.ntmps57
  go_wp2
  go_ret
  exact ⟨by rw [E.out]; rfl, XB.out⟩
end Go.Proofs.YtbmocghfpcfmhaaGreatDoor
