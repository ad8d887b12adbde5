/- The reference's Sealed, and the law LanduseLists: what each returns; nothing that was there is turned. -/
import Derived.Test.YtaaadejamjbcbaaDoorSeal
import Derived.Test.YtaaadejamjbcbaaDoorAwk15
namespace Go.Proofs.YtaaadejamjbcbaaDoor
open Go Go.RowKit

theorem bad_iff {n : Int} : arBad n = true ↔ n < 0 ∨ 1073741824 < n := by
  simp only [arBad, Bool.not_eq_true']
  exact inB_not
set_option maxRecDepth 100000 in
set_option maxHeartbeats 2000000 in
theorem rsealed_any (l : List Cls) (A : Option Addr) (cap : Nat) (ar : List Int) (B : Option Addr) (cap2 : Nat) (w : World) (hl : ClsSl w A l) (ha : IntSl w B ar) (hv : validB l = true) :
    Calls Tryd.prog 20 #[.slice A l.length cap, .slice B ar.length cap2] w (SePost (seYr l ar) (seNr l ar) (seE l ar) w) := by
  have hlen : l.length ≤ maxLen := hl.1.1
  unfold maxLen at hlen
  have hlen2 : ar.length ≤ 9223372036854775807 := ha.1.1
  have H := hide hl
  have HA := hide ha
  have HV := hide hv
  clear hl ha hv
  by_cases hn : ar.length = l.length
  case neg =>
    have E := hide (se_len hn)
    have q1 : ((ar.length : Int) == (l.length : Int)) = false := by simp; omega
    have q2 : ((ar.length : Int) != (l.length : Int)) = true := by simp; omega
    clear hn
    go_enter Tryd.func20, Tryd.ntmps20
    go_wp2
    exact bodyPost_ret (v := .tuple #[.int .i64 0, .int .i64 0, .int .i64 3]) (by simp [results, Tryd.results20, go_sem]) rfl ⟨by rw [E.out.1, E.out.2.1, E.out.2.2], Below.refl _ _⟩
  have HN := hide hn
  rw [hn] at hlen2 ⊢
  clear hn
  have EA := hide (fun h => se_any (l := l) (ar := ar) HN.out h)
  have EO := hide (fun h => se_ok (l := l) (ar := ar) HN.out h)
  have BAD := hide (fun (k : Nat) (hk : k < ar.length) (h : arBad (ar.getD k 0) = true) => (List.any_eq_true.2 ⟨ar.getD k 0, by simp [hk], h⟩ : ar.any arBad = true))
  -- the sums as far as all is in range: the areas behind count as none
  have ST := hide (fun (h2 : ∀ i, i < ar.length → 0 ≤ ar.getD i 0 ∧ ar.getD i 0 ≤ 1073741824) k hk => se_step HV.out HN.out h2 (k := k) hk)
  have BD := hide (fun (k : Nat) (hk : k ≤ l.length) (h2 : ∀ i, i < k → 0 ≤ ar.getD i 0 ∧ ar.getD i 0 ≤ 1073741824) => se_part HV.out k hk h2)
  go_enter Tryd.func20, Tryd.ntmps20
  go_wp2
  go_loopw [7, 8, 9] (fun v7 v8 v9 wr => ∃ k : Nat, k ≤ l.length ∧ v9 = .int .i64 (k : Int) ∧ v7 = .int .i64 (seY l ar k) ∧ v8 = .int .i64 (seN l ar k) ∧ Hid (∀ i, i < k → 0 ≤ ar.getD i 0 ∧ ar.getD i 0 ≤ 1073741824) ∧ Hid (Below w.heap.size w wr)) (fun _ _ v9 _ => l.length - (intOf v9).toNat)
  case atStart => exact ⟨0, Nat.zero_le _, rfl, rfl, rfl, hide (fun i h => absurd h (by omega)), hide (Below.refl _ _)⟩
  case round =>
    obtain ⟨k, hk, rfl, rfl, rfl, HJ, HB⟩ := hrel
    by_cases hlt : k < l.length
    · obtain ⟨b, off, rfl, hbl, hat⟩ := (H.out.below HB.out).2 (by omega)
      obtain ⟨c0, c1, c2, c3, c4⟩ := hat k hlt
      obtain ⟨b2, off2, rfl, hbl2, hat2⟩ := (HA.out.below HB.out).2 (by have := HN.out; omega)
      have lk2 : k < ar.length := by have := HN.out; omega
      have d0 := hat2 k lk2
      rw [getD_get lk2] at d0
      rw [(seAt_get hlt).symm] at c1
      by_cases x0 : ar.getD k 0 < 0
      · have q : decide (ar.getD k 0 < 0) = true := decide_eq_true x0
        have E := hide (EA.out (BAD.out k lk2 (bad_iff.2 (by omega))))
        clear hat hat2 lk2 x0 c0 c1 c2 c3 c4
        generalize seY l ar k = y at *
        generalize seN l ar k = n at *
        generalize ar.getD k 0 = x at *
        go_wp2
        exact bodyPost_ret (v := .tuple #[.int .i64 0, .int .i64 0, .int .i64 2]) (by simp [results, Tryd.results20, go_sem]) rfl ⟨by rw [E.out.1, E.out.2.1, E.out.2.2], HB.out⟩
      have q : decide (ar.getD k 0 < 0) = false := decide_eq_false x0
      by_cases x1 : 1073741824 < ar.getD k 0
      · have q2 : decide (1073741824 < ar.getD k 0) = true := decide_eq_true x1
        have E := hide (EA.out (BAD.out k lk2 (bad_iff.2 (by omega))))
        clear hat hat2 lk2 x0 x1 c0 c1 c2 c3 c4
        generalize seY l ar k = y at *
        generalize seN l ar k = n at *
        generalize ar.getD k 0 = x at *
        go_wp2
        exact bodyPost_ret (v := .tuple #[.int .i64 0, .int .i64 0, .int .i64 2]) (by simp [results, Tryd.results20, go_sem]) rfl ⟨by rw [E.out.1, E.out.2.1, E.out.2.2], HB.out⟩
      have q2 : decide (1073741824 < ar.getD k 0) = false := decide_eq_false x1
      have HJ2 : Hid (∀ i, i < k + 1 → 0 ≤ ar.getD i 0 ∧ ar.getD i 0 ≤ 1073741824) := hide (fun i hi => by
        by_cases e : i = k
        · subst e; omega
        · exact HJ.out i (by omega))
      obtain ⟨y1, y2, n1, n2⟩ := BD.out k hk HJ.out
      obtain ⟨s1, s2⟩ := (valid_se HV.out).2 k hlt
      have ey : Hid (seY l ar (k + 1) = seY l ar k + ar.getD k 0 * seAt l k ∧ seN l ar (k + 1) = seN l ar k + ar.getD k 0 * (1000 - seAt l k)) := hide ⟨rfl, rfl⟩
      clear hat hat2 lk2 c0 c2 c3 c4 HJ
      generalize seY l ar k = y at *
      generalize seN l ar k = n at *
      generalize seAt l k = s at *
      generalize ar.getD k 0 = x at *
      have p1 : 0 ≤ x * s := Int.mul_nonneg (by omega) s1
      have p2 : x * s ≤ 1073741824 * 1000 := Int.mul_le_mul (by omega) s2 s1 (by decide)
      have r1 : 0 ≤ x * (1000 - s) := Int.mul_nonneg (by omega) (by omega)
      have r2 : x * (1000 - s) ≤ 1073741824 * 1000 := Int.mul_le_mul (by omega) (by omega) (by omega) (by decide)
      obtain ⟨p, hp⟩ : ∃ p, p = x * s := ⟨_, rfl⟩
      obtain ⟨r, hr⟩ : ∃ r, r = x * (1000 - s) := ⟨_, rfl⟩
      rw [← hp] at p1 p2
      rw [← hr] at r1 r2
      have w0 := IntWalk.i64_in (1000 - s) (by omega)
      have w1' : IntKind.i64.wrap (x * s) = p := by rw [← hp]; exact IntWalk.i64_in _ (by omega)
      have w2' : IntKind.i64.wrap (x * (1000 - s)) = r := by rw [← hr]; exact IntWalk.i64_in _ (by omega)
      have w3 := IntWalk.i64_in (y + p) (by omega)
      have w4 := IntWalk.i64_in (n + r) (by omega)
      rw [← hp, ← hr] at ey
      clear hp hr
      go_wp2
      go_quiet (fail)
      go_wp2
      go_roundw
      case rel => exact ⟨k + 1, by omega, by go_num, by rw [ey.out.1], by rw [ey.out.2], HJ2, hide (below_drewN HB.out _)⟩
      case measure => simp [intOf]; omega
    · obtain rfl : k = l.length := by omega
      have E := hide (EO.out (any_bad.2 fun i hi => HJ.out i (by have := HN.out; omega)))
      go_wp2
      exact bodyPost_ret (v := .tuple #[.int .i64 (seY l ar l.length), .int .i64 (seN l ar l.length), .int .i64 0]) (by simp [results, Tryd.results20, go_sem]) rfl ⟨by rw [E.out.1, E.out.2.1, E.out.2.2], HB.out⟩
end Go.Proofs.YtaaadejamjbcbaaDoor
