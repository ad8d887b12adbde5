/- IntensityAscends: depths do not descend with the duration, or the period, and lie between those of the table: for every input the law returns true. -/
import Derived.Test.YtjnifgheipmanaaItAwk
namespace Go.Proofs.Ytjnifgheipmanaa
open Go.RowKit

theorem dep_ok {T : Tab} {x y : Int} (h : depE T x y = 0) : vT T = true ∧ inT T x y ∧ depLo T x y = loT T x y ∧ depHi T x y = hiT T x y := by
  rcases dep_cases T x y with ⟨_, k, _⟩ | ⟨_, _, k, _⟩ | ⟨k1, k2, _, k3, k4, _⟩
  · rw [k] at h; omega
  · rw [k] at h; omega
  · exact ⟨k1, k2, k3, k4⟩
theorem dep_of {T : Tab} {x y : Int} (h : vT T = true) (k : inT T x y) : depE T x y = 0 ∧ depLo T x y = loT T x y ∧ depHi T x y = hiT T x y := by
  rcases dep_cases T x y with ⟨q, _⟩ | ⟨_, q, _⟩ | ⟨_, _, k0, k3, k4, _⟩
  · rw [h] at q; cases q
  · exact absurd k q
  · exact ⟨k0, k3, k4⟩
theorem seven (d x p y : Int) : (d < x ∧ p ≤ y) ∨ (d < x ∧ y < p) ∨ (x < d ∧ y ≤ p) ∨ (x < d ∧ p < y) ∨ (d ≤ x ∧ x ≤ d ∧ p < y) ∨ (d ≤ x ∧ x ≤ d ∧ y < p) ∨ (d ≤ x ∧ x ≤ d ∧ p ≤ y ∧ y ≤ p) := by omega
set_option maxRecDepth 100000 in
set_option maxHeartbeats 8000000 in
theorem ascends_law (T : Tab) (a : TabA) (x y dx dy : Int) (w : World) (ht : TabSl w T a) (hx : -9223372036854775808 ≤ x ∧ x ≤ 9223372036854775807) (hy : -9223372036854775808 ≤ y ∧ y ≤ 9223372036854775807) :
    Calls Try.prog 4 #[T.val a, .int .i64 x, .int .i64 y, .int .i64 dx, .int .i64 dy] w fun e w' => e = .returned (.bool true) ∧ Below w.heap.size w w' := by
  obtain ⟨A1, A2, A3, k1, k2, k3⟩ := a
  have X := (Own.start w).alloc #[.slice A1 T.ds.length k1, .slice A2 T.ps.length k2, .slice A3 T.rows.length k3] 25
  have HT := hide ht
  have l1 : T.ds.length ≤ 9223372036854775807 := ht.1.1.1
  have l2 : T.ps.length ≤ 9223372036854775807 := ht.2.1.1.1
  have l3 : T.rows.length ≤ 9223372036854775807 := by have := ht.2.2.1.1; unfold maxLen at this; omega
  have D := hide (fun W u v (h : TabSl W T ⟨A1, A2, A3, k1, k2, k3⟩) => Depth_any T ⟨A1, A2, A3, k1, k2, k3⟩ u v W h)
  have LG := hide (fun W (h : TabSl W T ⟨A1, A2, A3, k1, k2, k3⟩) => large_any T ⟨A1, A2, A3, k1, k2, k3⟩ W h)
  clear ht
  rcases Bool.eq_false_or_eq_true (bigT T) with t1 | t1
  all_goals
    go_enter Try.func4, Try.ntmps4
    go_wp2_with fail
    refine (awake_any _).mono ?_
    rintro e w1 ⟨rfl, hb⟩
    replace X := X.to hb
    clear hb
    have hr := X.r1
    go_wp2_with fail
    refine (LG.out _ (HT.out.below X.1)).mono ?_
    rintro e w2 ⟨rfl, hb⟩
    rw [t1]
    replace X := X.to hb
    clear hb hr
    have hr := X.r1
  · go_wp2
    go_ret
    exact ⟨rfl, X.1⟩
  by_cases g : 0 ≤ dx ∧ 0 ≤ dy ∧ dx ≤ 1073741824 ∧ dy ≤ 1073741824 ∧ -1073741824 ≤ x ∧ -1073741824 ≤ y ∧ x ≤ 1073741824 ∧ y ≤ 1073741824
  rotate_left
  · go_wp2_with fail
    all_goals first | (go_ret; exact ⟨rfl, X.1⟩) | (exfalso; omega)
  obtain ⟨g1, g2, g3, g4, g5, g6, g7, g8⟩ := g
  go_wp2_with fail
  refine (D.out _ x y (HT.out.below X.1)).mono ?_
  rintro e w3 ⟨rfl, hb⟩
  replace X := (X.to hb).alloc #[.int .i64 (depLo T x y), .int .i64 (depHi T x y)] 29
  clear hb hr
  have hr := X.r2
  go_wp2_with fail
  refine (D.out _ (x + dx) (y + dy) (HT.out.below X.1)).mono ?_
  rintro e w4 ⟨rfl, hb⟩
  replace X := (X.to hb).alloc #[.int .i64 (depLo T (x + dx) (y + dy)), .int .i64 (depHi T (x + dx) (y + dy))] 29
  clear hb hr
  have hr := X.r3
  by_cases e1 : depE T x y = 0
  rotate_left
  · have q : (depE T x y == 0) = false := by simpa using e1
    have q' : (depE T x y != 0) = true := by simpa using e1
    clear e1
    go_wp2
    go_ret
    exact ⟨rfl, X.1⟩
  by_cases e2 : depE T (x + dx) (y + dy) = 0
  rotate_left
  · have q : (depE T (x + dx) (y + dy) == 0) = false := by simpa using e2
    have q' : (depE T (x + dx) (y + dy) != 0) = true := by simpa using e2
    have q2 : (depE T x y == 0) = true := by simpa using e1
    have q3 : (depE T x y != 0) = false := by simpa using e1
    clear e1 e2
    go_wp2
    go_ret
    exact ⟨rfl, X.1⟩
  obtain ⟨v1, i1, m1, m2⟩ := dep_ok e1
  obtain ⟨_, i2, m3, m4⟩ := dep_ok e2
  have v := of_vT v1
  have mo := loT_mono v i1 i2 (by omega) (by omega)
  have lh := lohi v i1
  have VT' := hide v
  have V1 := hide v1
  have I1 := hide i1
  have PL := hide (fun i k (hi : i < T.ds.length) (hk : k < T.ps.length) => And.intro (dep_of v1 (in_at v hi hk)) (at_place v hi hk))
  have UP := hide (fun i k (hi : i < T.ds.length) (hk : k < T.ps.length) (h1 : T.ds.getD i 0 ≤ x) (h2 : T.ps.getD k 0 ≤ y) => (loT_mono v (in_at v hi hk) i1 h1 h2).2)
  have DN := hide (fun i k (hi : i < T.ds.length) (hk : k < T.ps.length) (h1 : x ≤ T.ds.getD i 0) (h2 : y ≤ T.ps.getD k 0) => (loT_mono v i1 (in_at v hi hk) h1 h2).1)
  have RW := hide v.rw
  have RL := hide v.rl
  rw [m1, m2, m3, m4] at X hr
  rw [e1, e2, m1, m2, m3, m4]
  clear v v1 i1 i2 m1 m2 m3 m4 e1 e2
  generalize loT T (x + dx) (y + dy) = lo2 at *
  generalize hiT T (x + dx) (y + dy) = hi2 at *
  generalize loT T x y = lo at *
  generalize hiT T x y = hi at *
  obtain ⟨mo1, mo2⟩ := mo
  obtain ⟨lh1, lh2, lh3, lh4⟩ := lh
  go_wp2
  clear hr mo1 mo2
  generalize w3.heap.size = ba at *
  have X := X.tail
  go_loopw [111] (fun v wr => ∃ i : Nat, i ≤ T.ds.length ∧ v = .int .i64 i ∧ Own w wr [(ba, 29, #[.int .i64 lo, .int .i64 hi]), (w.heap.size, 25, #[.slice A1 T.ds.length k1, .slice A2 T.ps.length k2, .slice A3 T.rows.length k3])]) (fun v _ => T.ds.length - (intOf v).toNat)
  case atStart => exact ⟨0, Nat.zero_le _, rfl, X⟩
  case round =>
    clear X
    obtain ⟨i, hi', rfl, Y⟩ := hrel
    have hr := Y.r2
    by_cases hlt : i < T.ds.length
    · obtain ⟨b, off, rfl, hbl, hat⟩ := (HT.out.1.below Y.1).at_ (by omega)
      have c0 := hat i hlt
      have PLi := hide (fun k (hk : k < T.ps.length) => PL.out i k hlt hk)
      have UPi := hide (fun k (hk : k < T.ps.length) => UP.out i k hlt hk)
      have DNi := hide (fun k (hk : k < T.ps.length) => DN.out i k hlt hk)
      clear hat
      generalize T.ds.getD i 0 = d at *
      go_wp2
      clear c0 hr
      go_loopw [119] (fun v wr => ∃ k : Nat, k ≤ T.ps.length ∧ v = .int .i64 k ∧ Own w wr [(ba, 29, #[.int .i64 lo, .int .i64 hi]), (w.heap.size, 25, #[.slice (some ⟨b, off, none⟩) T.ds.length k1, .slice A2 T.ps.length k2, .slice A3 T.rows.length k3])]) (fun v _ => T.ps.length - (intOf v).toNat)
      case atStart => exact ⟨0, Nat.zero_le _, rfl, Y⟩
      case round =>
        clear Y
        obtain ⟨k, hk, rfl, Y⟩ := hrel
        have hr := Y.r2
        by_cases hlk : k < T.ps.length
        · obtain ⟨b2, off2, rfl, hbl2, hat2⟩ := (HT.out.2.1.below Y.1).at_ (by omega)
          have p0 := hat2 k hlk
          obtain ⟨⟨z1, z2, z3⟩, z4, z5⟩ := PLi.out k hlk
          have up := UPi.out k hlk
          have dn := DNi.out k hlk
          have ec : Hid (T.cell k i = (T.rows.getD k []).getD i 0) := rfl
          clear hat2
          generalize T.ps.getD k 0 = p at *
          have DD := hide (fun W h => D.out W d p h)
          rw [z1, z2, z3, z4, z5] at DD
          rw [z5] at up
          rw [z4] at dn
          clear z1 z2 z3 z4 z5
          have UPk := hide up
          have DNk := hide dn
          clear up dn
          go_wp2_with fail
          refine (DD.out _ (HT.out.below Y.1)).mono ?_
          rintro e w5 ⟨rfl, hb⟩
          replace Y := (Y.to hb).alloc #[.int .i64 (T.cell k i), .int .i64 (T.cell k i)] 29
          clear hb hr
          have hr := Y.r3
          obtain ⟨ob, oo, R, c, rfl, hob, r0, hR⟩ := (HT.out.2.2.1.below Y.1).row (i := k) (by have := RL.out; omega)
          have rl := RW.out k hlk
          obtain ⟨b3, off3, rfl, hb3, hat3⟩ := hR.at_ (by omega)
          have q0 := hat3 i (by omega)
          rw [← ec.out] at q0
          rw [rl] at r0
          have n1 : (k : Int) < (T.rows.length : Int) := by have := RL.out; omega
          have n2 : (i : Int) < (T.ds.length : Int) := by omega
          have n3 : (0 : Int) ≤ (k : Int) := by omega
          have n4 : (0 : Int) ≤ (i : Int) := by omega
          clear hat3 hR rl
          generalize T.cell k i = cc at *
          go_wp2
          go_quiet (fail)
          have Z := (Y.drewN' nq).tail
          rcases seven d x p y with ⟨s1, s2⟩ | ⟨s1, s2⟩ | ⟨s1, s2⟩ | ⟨s1, s2⟩ | ⟨s1, s2, s3⟩ | ⟨s1, s2, s3⟩ | ⟨s1, s2, s3, s4⟩
          · have u := UPk.out (by omega) s2
            go_wp2
            go_roundw
            case rel => exact ⟨k + 1, by omega, by go_num, Z⟩
            case measure => simp [intOf]; omega
          · go_wp2
            go_roundw
            case rel => exact ⟨k + 1, by omega, by go_num, Z⟩
            case measure => simp [intOf]; omega
          · have u := DNk.out (by omega) s2
            go_wp2
            go_roundw
            case rel => exact ⟨k + 1, by omega, by go_num, Z⟩
            case measure => simp [intOf]; omega
          · go_wp2
            go_roundw
            case rel => exact ⟨k + 1, by omega, by go_num, Z⟩
            case measure => simp [intOf]; omega
          · have u := UPk.out s1 (by omega)
            go_wp2
            go_roundw
            case rel => exact ⟨k + 1, by omega, by go_num, Z⟩
            case measure => simp [intOf]; omega
          · have u := DNk.out s2 (by omega)
            go_wp2
            go_roundw
            case rel => exact ⟨k + 1, by omega, by go_num, Z⟩
            case measure => simp [intOf]; omega
          · have u := UPk.out s1 s3
            have u2 := DNk.out s2 s4
            go_wp2
            go_roundw
            case rel => exact ⟨k + 1, by omega, by go_num, Z⟩
            case measure => simp [intOf]; omega
        · go_wp2
          go_roundw
          case rel => exact ⟨i + 1, by omega, by go_num, Y⟩
          case measure => simp [intOf]; omega
    · go_wp2
      go_ret
      exact ⟨rfl, Y.1⟩
end Go.Proofs.Ytjnifgheipmanaa
