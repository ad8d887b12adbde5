/- The reference's fractions: Make, Valid, Neg: what each returns; nothing that was there is turned. -/
import Derived.Test.YtbmckddjdkjplaaDoorRtFn
import Derived.Test.YtbmckddjdkjplaaDoorOwn3
namespace Go.Proofs.YtbmckddjdkjplaaDoor
open Go.RowKit

theorem tdiv_neg_mul {n : Int} {q g : Nat} (hg : 0 < g) (h : n.natAbs = q * g) : (0 ≤ n → n.tdiv (-(g : Int)) = -(q : Int)) ∧ (n ≤ 0 → n.tdiv (-(g : Int)) = (q : Int)) := by
  have e : ((q * g : Nat) : Int) = (q : Int) * g := Int.natCast_mul _ _
  constructor
  · intro hn
    have : n = (q : Int) * g := by omega
    rw [this, Int.tdiv_neg, Int.mul_tdiv_cancel _ (by omega)]
  · intro hn
    have : n = -((q : Int) * g) := by omega
    rw [this, Int.tdiv_neg, Int.neg_tdiv, Int.mul_tdiv_cancel _ (by omega), Int.neg_neg]
theorem tmod_neg_nat (x y : Nat) : (-(x : Int)).tmod (-(y : Int)) = -((x % y : Nat) : Int) := by
  rw [Int.tmod_neg, Int.neg_tmod, Int.tmod_eq_emod_of_nonneg (by omega), Int.natCast_emod]
/-- the quotients by the negated divisor, as words -/
theorem rquo {n : Int} {q g : Nat} (hg : 0 < g) (h : n.natAbs = q * g) (h0 : -9223372036854775808 ≤ n) (h1 : n ≤ 9223372036854775807) : ∃ v' v : Int, n.tdiv (-(g : Int)) = v' ∧ RowKit.wrap64 v' = v ∧ v.natAbs = q ∧ -9223372036854775808 ≤ v ∧ v ≤ 9223372036854775807 := by
  have hq : q ≤ n.natAbs := by rw [h]; exact Nat.le_mul_of_pos_right q hg
  obtain ⟨t1, t2⟩ := tdiv_neg_mul hg h
  rcases Int.lt_or_le n 0 with hn | hn
  · rw [t2 (by omega)]
    by_cases hb : q = 9223372036854775808
    · exact ⟨_, -9223372036854775808, rfl, by subst hb; unfold RowKit.wrap64; omega, by subst hb; decide, by omega, by omega⟩
    · exact ⟨_, q, rfl, by rw [IntWalk.wrap64_in _ (by omega)], by omega, by omega, by omega⟩
  · rw [t1 hn]
    exact ⟨_, -(q : Int), rfl, by rw [IntWalk.wrap64_in _ (by omega)], by omega, by omega, by omega⟩
theorem wneg {v : Int} (h0 : -9223372036854775808 ≤ v) (h1 : v ≤ 9223372036854775807) : ∃ u : Int, IntKind.i64.wrap (-v) = u ∧ u.natAbs = v.natAbs ∧ -9223372036854775808 ≤ u ∧ u ≤ 9223372036854775807 ∧ (v ≠ -9223372036854775808 → u = -v) := by
  by_cases hb : v = -9223372036854775808
  · subst hb
    exact ⟨-9223372036854775808, by decide, by decide, by omega, by omega, fun h => absurd rfl h⟩
  · exact ⟨-v, by rw [IntKind.wrap_i64]; omega, by omega, by omega, by omega, fun _ => rfl⟩
/-- which of the four tests fails first -/
theorem big4 {v u : Int} (h : ¬ (v.natAbs ≤ 1073741824 ∧ u.natAbs ≤ 1073741824)) : decide (v < -1073741824) = true ∨ (decide (v < -1073741824) = false ∧ decide (1073741824 < v) = true) ∨
    (decide (v < -1073741824) = false ∧ decide (1073741824 < v) = false ∧ decide (u < 1) = true) ∨ (decide (v < -1073741824) = false ∧ decide (1073741824 < v) = false ∧ decide (u < 1) = false ∧ decide (1073741824 < u) = true) := by
  simp only [decide_eq_true_eq, decide_eq_false_iff_not]
  omega
theorem mk_fits4 {n d : Int} {q p : Nat} (hd : d ≠ 0) (e1 : n.natAbs / gF n d = q) (e2 : d.natAbs / gF n d = p) (h : q ≤ 1073741824 ∧ p ≤ 1073741824) : mkE n d = 0 ∧ (0 ≤ n → 0 < d → mkF n d = ⟨q, p⟩) ∧ (0 ≤ n → d ≤ 0 → mkF n d = ⟨-(q : Int), p⟩) ∧
    (n ≤ 0 → 0 < d → mkF n d = ⟨-(q : Int), p⟩) ∧ (n ≤ 0 → d ≤ 0 → mkF n d = ⟨q, p⟩) := by
  obtain ⟨h1, h2⟩ := mk_fits hd e1 e2 h.1 h.2
  have hz : n = 0 → q = 0 := by intro hn; rw [hn] at e1; simpa using e1.symm
  refine ⟨h2, fun a b => ?_, fun a b => ?_, fun a b => ?_, fun a b => ?_⟩
  · rw [h1, if_pos (by omega)]
  · rw [h1, if_neg (by omega)]
  · rw [h1]
    by_cases hn : n = 0
    · rw [hz hn, if_pos (by omega)]; rfl
    · rw [if_neg (by omega)]
  · rw [h1]
    by_cases hn : n = 0
    · rw [hz hn, if_neg (by omega)]; rfl
    · rw [if_pos (by omega)]
set_option maxRecDepth 100000 in
set_option maxHeartbeats 2000000 in
theorem rmake_any (n d : Int) (w : World) (hn0 : -9223372036854775808 ≤ n) (hn1 : n ≤ 9223372036854775807) (hd0 : -9223372036854775808 ≤ d) (hd1 : d ≤ 9223372036854775807) :
    Calls Tryd.prog 15 #[.int .i64 n, .int .i64 d] w (RetFE (mkF n d) (mkE n d) w) := by
  have X := (Own.start w).alloc #[.int .i64 0, .int .i64 0] 24
  by_cases hd : d = 0
  · subst hd
    have hr := X.r1
    have H := hide (And.intro (mkF_zero n) (mkE_zero n))
    go_enter Tryd.func15, Tryd.ntmps15
    go_wp2
    exact bodyPost_ret (v := .tuple #[Fr.zero.val, .int .i64 16]) (by simp [results, Tryd.results15, hr, Fr.zero, go_sem]) rfl (RetFE.mk (by have HX := X.1; have hz := HX.size; go_grown) H.out.1 H.out.2)
  obtain ⟨g, q, p, eg, hg, eq, ep, hp, hc, e1, e2⟩ := gF_parts (n := n) hd
  have HG : Hid (Nat.gcd n.natAbs d.natAbs = g) := hide eg
  have Q1 := tdiv_neg_mul hg eq
  have Q2 := tdiv_neg_mul hg ep
  have R1 := rquo hg eq hn0 hn1
  have R2 := rquo hg ep hd0 hd1
  have M1 := mk_fits4 hd e1 e2
  have M2 := mk_big hd e1 e2
  have HM := hide (And.intro M1 (And.intro M2 (And.intro Q1 (And.intro Q2 (And.intro R1 (And.intro R2 (And.intro hp hg)))))))
  clear Q1 Q2 R1 R2 M1 M2 eg eq ep hp hc e1 e2 hg
  generalize hW : w.alloc (.cells #[.int .i64 0, .int .i64 0] 24) = W at X
  have hN : (n.natAbs : Int) ≤ 9223372036854775808 := by omega
  have hD : (d.natAbs : Int) ≤ 9223372036854775808 := by omega
  have s1 : 0 < n → -n = -(n.natAbs : Int) := by omega
  have s2 : ¬ 0 < n → n = -(n.natAbs : Int) := by omega
  have s3 : 0 < d → -d = -(d.natAbs : Int) := by omega
  have s4 : ¬ 0 < d → d = -(d.natAbs : Int) := by omega
  have S := hide (And.intro s1 (And.intro s2 (And.intro s3 s4)))
  have HN := hide (And.intro hN hD)
  clear s1 s2 s3 s4 hN hD
  have zz : w.heap.size < W.heap.size := X.r1.2.2
  rcases Bool.eq_false_or_eq_true (decide (0 < n)) with c1 | c1 <;> rcases Bool.eq_false_or_eq_true (decide (0 < d)) with c2 | c2
  all_goals
    have b1 := c1
    have b2 := c2
    simp only [decide_eq_true_eq, decide_eq_false_iff_not] at b1 b2
    have HS : Hid ((if 0 < n then -n else n) = -(n.natAbs : Int) ∧ (if 0 < d then -d else d) = -(d.natAbs : Int)) := hide (by constructor <;> split <;> omega)
    have HB := hide (And.intro b1 b2)
    clear b1 b2
    go_enter Tryd.func15, Tryd.ntmps15
    go_wp2
    go_loopw [6, 7] (fun v6 v7 wr => ∃ x y m : Nat, v6 = .int .i64 (-(x : Int)) ∧ v7 = .int .i64 (-(y : Int)) ∧ wr = W.drewN m ∧ Hid (Nat.gcd x y = g) ∧ (x : Int) ≤ 9223372036854775808 ∧ (y : Int) ≤ 9223372036854775808) (fun _ v7 _ => (intOf v7).natAbs)
    case atStart =>
      have b1 := HB.out
      refine ⟨n.natAbs, d.natAbs, 0, ?_, ?_, by simp [World.drewN_zero], HG, HN.out.1, HN.out.2⟩
      · congr 1; first | omega | (rw [IntWalk.wrap64_in _ (by omega)]; omega)
      · congr 1; first | omega | (rw [IntWalk.wrap64_in _ (by omega)]; omega)
    case round =>
      obtain ⟨x, y, m, rfl, rfl, rfl, HG', hx, hy⟩ := hrel
      by_cases h : y = 0
      · subst h
        have hg : x = g := by have := HG'.out; rwa [Nat.gcd_zero_right] at this
        subst hg
        obtain ⟨M1, M2, Q1, Q2, R1, R2, hp, hg0⟩ := HM.out
        have b := HB.out
        have hx0 : -(x : Int) ≠ 0 := by omega
        replace X := X.drewN m
        generalize World.drewN _ m = W1 at *
        have hr := X.r1
        by_cases hf : q ≤ 1073741824 ∧ p ≤ 1073741824
        · obtain ⟨m1, m2, m3, m4, m5⟩ := M1 hf
          first
          | have hs := hide (And.intro (m2 (by omega) (by omega)) m1)
          | have hs := hide (And.intro (m3 (by omega) (by omega)) m1)
          | have hs := hide (And.intro (m4 (by omega) (by omega)) m1)
          | have hs := hide (And.intro (m5 (by omega) (by omega)) m1)
          first
          | have t1 := Q1.1 (by omega)
          | have t1 := Q1.2 (by omega)
          first
          | have t2 := Q2.1 (by omega)
          | have t2 := Q2.2 (by omega)
          have k1 : (q : Int) ≤ 1073741824 := by omega
          have k2 : (p : Int) ≤ 1073741824 := by omega
          have k3 : (1 : Int) ≤ p := by omega
          have f1 : decide ((q : Int) < -1073741824) = false := decide_eq_false (by omega)
          have f2 : decide (1073741824 < (q : Int)) = false := decide_eq_false (by omega)
          have f3 : decide (1073741824 < -(q : Int)) = false := decide_eq_false (by omega)
          have f5 : decide ((p : Int) < 1) = false := decide_eq_false (by omega)
          have f6 : decide (1073741824 < (p : Int)) = false := decide_eq_false (by omega)
          have f7 : decide (0 < (p : Int)) = true := decide_eq_true (by omega)
          have f8 : decide (-(p : Int) < 0) = true := decide_eq_true (by omega)
          have f9 : decide ((p : Int) < 0) = false := decide_eq_false (by omega)
          clear M1 M2 Q1 Q2 R1 R2 m1 m2 m3 m4 m5 hf b c1 c2 hp hd hn0 hn1 hd0 hd1 hx
          go_wp2
          first
          | exact bodyPost_ret (v := .tuple #[(Fr.mk (q : Int) (p : Int)).val, .int .i64 0]) (by simp [results, Tryd.results15, hr, go_sem]) rfl (RetFE.mk (by have HX := X.1; have hz := HX.size; go_grown) hs.out.1 hs.out.2)
          | exact bodyPost_ret (v := .tuple #[(Fr.mk (-(q : Int)) (p : Int)).val, .int .i64 0]) (by simp [results, Tryd.results15, hr, go_sem]) rfl (RetFE.mk (by have HX := X.1; have hz := HX.size; go_grown) hs.out.1 hs.out.2)
        · have hs := hide (M2 hf)
          obtain ⟨v', v, T1, E1, hv, v0, v1⟩ := R1
          obtain ⟨u', u, T2, E2, hu, u0, u1⟩ := R2
          clear M1 M2 Q1 Q2 c1 c2 hp hd hn0 hn1 hd0 hd1 hx b
          by_cases hneg : u < 0
          · have g1 : decide (u < 0) = true := by simp [hneg]
            obtain ⟨v2, E3, hv2, _, _, _⟩ := wneg v0 v1
            obtain ⟨u2, E4, hu2, _, _, _⟩ := wneg u0 u1
            rw [IntWalk.i64_left] at E3 E4
            have B := big4 (v := v2) (u := u2) (by rw [hv2, hu2, hv, hu]; exact hf)
            clear hf hneg hv hu hv2 hu2 v0 v1 u0 u1
            rcases B with B1 | ⟨B1, B2⟩ | ⟨B1, B2, B3⟩ | ⟨B1, B2, B3, B4⟩
            all_goals
              go_wp2
              exact bodyPost_ret (v := .tuple #[Fr.zero.val, .int .i64 5]) (by simp [results, Tryd.results15, hr, Fr.zero, go_sem]) rfl (RetFE.mk (by have HX := X.1; have hz := HX.size; go_grown) hs.out.1 hs.out.2)
          · have g1 : decide (u < 0) = false := decide_eq_false hneg
            have B := big4 (v := v) (u := u) (by rw [hv, hu]; exact hf)
            clear hf hneg hv hu v0 v1 u0 u1
            rcases B with B1 | ⟨B1, B2⟩ | ⟨B1, B2, B3⟩ | ⟨B1, B2, B3, B4⟩
            all_goals
              go_wp2
              exact bodyPost_ret (v := .tuple #[Fr.zero.val, .int .i64 5]) (by simp [results, Tryd.results15, hr, Fr.zero, go_sem]) rfl (RetFE.mk (by have HX := X.1; have hz := HX.size; go_grown) hs.out.1 hs.out.2)
      · have hy0 : -(y : Int) ≠ 0 := by omega
        have he := tmod_neg_nat x y
        have hl : x % y < y := Nat.mod_lt _ (by omega)
        have HG2 := hide (And.intro ((Nat.gcd_rec y x).symm.trans ((Nat.gcd_comm y x).trans HG'.out)) hl)
        have hz : ((x % y : Nat) : Int) ≤ 9223372036854775808 := by omega
        clear hl
        generalize x % y = z at *
        go_wp2_with fail
        go_quiet (fail)
        go_wp2
        go_roundw
        case rel => exact ⟨y, z, m + nq, by go_num, by go_num, by first | rfl | (rw [World.drewN_add]) | simp, hide ((Nat.gcd_comm y z).trans HG2.out.1), by omega, by omega⟩
        case measure => have := HG2.out.2; simp [intOf]; omega
end Go.Proofs.YtbmckddjdkjplaaDoor
