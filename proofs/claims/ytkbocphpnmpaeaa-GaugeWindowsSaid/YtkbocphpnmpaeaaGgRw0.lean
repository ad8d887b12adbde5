/- The reference's Floor by a number from 1 on, its depth of a record at an instant. -/
import Derived.Test.YtkbocphpnmpaeaaGgMrg
namespace Go.Proofs.Ytkbocphpnmpaeaa
open Go.RowKit

theorem floor_of {n d q : Int} (hd : 1 ≤ d) (hq : q = n.tdiv d) : (n - q * d < 0 → n / d = q - 1) ∧ (¬ n - q * d < 0 → n / d = q) ∧ -d < n - q * d ∧ n - q * d < d := by
  have e := Int.mul_tdiv_add_tmod n d
  have r1 : n.tmod d < d := Int.tmod_lt_of_pos n (by omega)
  have r2 : -d < n.tmod d := by
    rcases Int.lt_or_le n 0 with h | h
    · have h3 := Int.tmod_lt_of_pos (-n) (show 0 < d by omega)
      rw [Int.neg_tmod] at h3
      omega
    · have := Int.tmod_nonneg d h
      omega
  rw [← hq, Int.mul_comm] at e
  have key : ∀ r p : Int, r + d * p = n → 0 ≤ r → r < d → n / d = p := fun r p h1 h2 h3 => ((Int.ediv_emod_unique (by omega)).2 ⟨h1, h2, h3⟩).1
  have c : d * q = q * d := Int.mul_comm _ _
  refine ⟨fun h => key (n - q * d + d) (q - 1) ?_ (by omega) (by omega), fun h => key (n - q * d) q (by omega) (by omega) (by omega), by omega, by omega⟩
  rw [Int.mul_sub, Int.mul_one]
  omega
set_option maxHeartbeats 1000000 in
theorem rfloor_any (n d : Int) (w : World) (hd : 1 ≤ d ∧ d ≤ 86400) (hn : -274877906944 ≤ n ∧ n ≤ 274877906944) : Calls Try.prog 57 #[.int .i64 n, .int .i64 d] w (fun e w' => e = .returned (.int .i64 (n / d)) ∧ w' = w) := by
  obtain ⟨q, hq⟩ : ∃ q, q = n.tdiv d := ⟨_, rfl⟩
  obtain ⟨f1, f2, f3, f4⟩ := floor_of hd.1 hq
  obtain ⟨p, hp⟩ : ∃ p, p = q * d := ⟨_, rfl⟩
  rw [← hp] at f1 f2 f3 f4
  have qb : -274877906944 - 86400 ≤ n / d ∧ n / d ≤ 274877906944 := by
    have h1 : n / d ≤ 274877906944 := by
      rcases Int.lt_or_le n 0 with h | h
      · have := Int.ediv_neg_of_neg_of_pos h (show 0 < d by omega); omega
      · have := Int.ediv_le_self d h; omega
    have h2 : -274877906944 ≤ n / d := by
      rcases Int.lt_or_le n 0 with h | h
      · refine (Int.le_ediv_iff_mul_le (by omega)).2 ?_
        have : (-274877906944 : Int) * d ≤ -274877906944 * 1 := Int.mul_le_mul_of_nonpos_left (by omega) (by omega)
        omega
      · have := Int.ediv_nonneg h (show 0 ≤ d by omega); omega
    omega
  have q5 : (d == 0) = false := beq_eq_false_iff_ne.2 (by omega)
  have q6 : ¬ d = 0 := by omega
  by_cases h : n - p < 0
  · have e := f1 h
    rw [e] at qb ⊢
    have w1 : IntKind.i64.wrap (n.tdiv d) = q := by rw [← hq]; exact IntWalk.i64_in _ (by omega)
    have w2 : IntKind.i64.wrap (q * d) = p := by rw [← hp]; exact IntWalk.i64_in _ (by omega)
    have w3 : IntKind.i64.wrap (n - p) = n - p := IntWalk.i64_in _ (by omega)
    have w4 : IntKind.i64.wrap (q - 1) = q - 1 := IntWalk.i64_in _ (by omega)
    have g : decide (n - p < 0) = true := decide_eq_true h
    clear f1 f2 f3 f4 e h hq hp qb
    go_enter Try.func57, Try.ntmps57
    go_wp2
    go_ret
    exact ⟨rfl, rfl⟩
  · have e := f2 h
    rw [e] at qb ⊢
    have w1 : IntKind.i64.wrap (n.tdiv d) = q := by rw [← hq]; exact IntWalk.i64_in _ (by omega)
    have w2 : IntKind.i64.wrap (q * d) = p := by rw [← hp]; exact IntWalk.i64_in _ (by omega)
    have w3 : IntKind.i64.wrap (n - p) = n - p := IntWalk.i64_in _ (by omega)
    have g : decide (n - p < 0) = false := decide_eq_false h
    clear f1 f2 f3 f4 e h hq hp qb
    go_enter Try.func57, Try.ntmps57
    go_wp2
    go_ret
    exact ⟨rfl, rfl⟩
set_option maxRecDepth 100000 in
set_option maxHeartbeats 2000000 in
theorem rat_any (s : Ser) (a : SerA) (t : Int) (w : World) (hs : SerSl w s a) (v : VS s) (ht : -68719476736 ≤ t ∧ t ≤ 68719476736) : Calls Try.prog 48 #[s.val a, .int .i64 t] w (NPost (atS s t) w) := by
  obtain ⟨fr, st, l⟩ := s
  obtain ⟨A, c⟩ := a
  have v1 : 1 ≤ st ∧ st ≤ 86400 := v.st
  have vf : -68719476736 ≤ fr ∧ fr ≤ 68719476736 := v.fr
  have X := (Own.start w).alloc #[.int .i64 fr, .int .i64 st, .slice A l.length c] 24
  have hr := X.r1
  have HS := hide hs
  have s1 := IntWalk.i64_in (t - fr) (by omega)
  have FL := hide (fun W => rfloor_any (t - fr) st W v1 (by omega))
  have n0 : (0 : Int) ≤ (l.length : Int) := by omega
  show Calls Try.prog 48 #[.agg #[.int .i64 fr, .int .i64 st, .slice A l.length c], .int .i64 t] w _
  clear hs
  rcases Int.lt_or_le t fr with h | h
  · have E := hide (show atS ⟨fr, st, l⟩ t = -1 by unfold atS; exact if_neg (fun x => by have : fr ≤ t := x.1; omega))
    have k0 := Int.ediv_neg_of_neg_of_pos (show t - fr < 0 by omega) (show 0 < st by omega)
    have g1 : decide ((t - fr) / st < 0) = true := decide_eq_true k0
    clear v v1 vf k0
    generalize (t - fr) / st = K at *
    go_enter Try.func48, Try.ntmps48
    go_wp2_with fail
    refine (FL.out _).mono ?_
    rintro e W ⟨rfl, rfl⟩
    go_wp2
    go_ret
    exact NPost.mk E.out X.1
  · have p1 := Int.ediv_nonneg (show 0 ≤ t - fr by omega) (show 0 ≤ st by omega)
    obtain ⟨k, ek⟩ : ∃ k : Nat, (t - fr) / st = (k : Int) := ⟨((t - fr) / st).toNat, by omega⟩
    rw [ek] at FL
    have g1 : decide ((k : Int) < 0) = false := decide_eq_false (by omega)
    by_cases hk : k < l.length
    · have E := hide (show atS ⟨fr, st, l⟩ t = l.getD k 0 by
        unfold atS
        rw [if_pos ⟨h, by show (t - fr) / st < (l.length : Int); omega⟩]
        show l.getD ((t - fr) / st).toNat 0 = _
        rw [ek]; rfl)
      obtain ⟨b, off, rfl, hbl, hat⟩ := (HS.out.below X.1).1.atg (show 0 < l.length by omega)
      have c0 := hat k hk
      have g2 : decide ((l.length : Int) ≤ (k : Int)) = false := decide_eq_false (by omega)
      have g3 : (0 : Int) ≤ (k : Int) := by omega
      have g4 : (k : Int) < (l.length : Int) := by omega
      have g5 : decide (l.length ≤ k) = false := decide_eq_false (by omega)
      clear v v1 vf hat ek p1
      generalize l.getD k 0 = d at *
      go_enter Try.func48, Try.ntmps48
      go_wp2_with fail
      refine (FL.out _).mono ?_
      rintro e W ⟨rfl, rfl⟩
      go_wp2
      go_ret
      exact NPost.mk E.out X.1
    · have E := hide (show atS ⟨fr, st, l⟩ t = -1 by unfold atS; exact if_neg (fun x => by have : (t - fr) / st < (l.length : Int) := x.2; omega))
      have g2 : decide ((l.length : Int) ≤ (k : Int)) = true := decide_eq_true (by omega)
      have g5 : decide (l.length ≤ k) = true := decide_eq_true (by omega)
      clear v v1 vf ek p1
      go_enter Try.func48, Try.ntmps48
      go_wp2_with fail
      refine (FL.out _).mono ?_
      rintro e W ⟨rfl, rfl⟩
      go_wp2
      go_ret
      exact NPost.mk E.out X.1
end Go.Proofs.Ytkbocphpnmpaeaa
