/- The reference's Instant, Length and Valid of records: what each returns; nothing that was there is turned. -/
import Derived.Test.YtkbocphpnmpaeaaGgFn
namespace Go.Proofs.Ytkbocphpnmpaeaa
open Go.RowKit

set_option maxHeartbeats 400000 in
theorem rinstant_any (t : Int) (w : World) : Calls Try.prog 42 #[.int .i64 t] w fun e w' => e = .returned (.bool (insB t)) ∧ w = w' := by
  have h : t < -68719476736 ∨ (-68719476736 ≤ t ∧ 68719476736 < t) ∨ (-68719476736 ≤ t ∧ t ≤ 68719476736) := by omega
  rcases h with h | ⟨h1, h2⟩ | ⟨h1, h2⟩
  all_goals
    go_enter Try.func42, Try.ntmps42
    go_wp2
    go_ret
    exact ⟨ret_bool (by unfold insB; simp <;> omega), rfl⟩
def lenS (t : Int) : Bool := decide (1 ≤ t ∧ t ≤ 86400)
set_option maxHeartbeats 400000 in
theorem rlength_any (t : Int) (w : World) : Calls Try.prog 43 #[.int .i64 t] w fun e w' => e = .returned (.bool (lenS t)) ∧ w = w' := by
  have h : t < 1 ∨ (1 ≤ t ∧ 86400 < t) ∨ (1 ≤ t ∧ t ≤ 86400) := by omega
  rcases h with h | ⟨h1, h2⟩ | ⟨h1, h2⟩
  all_goals
    go_enter Try.func43, Try.ntmps43
    go_wp2
    go_ret
    exact ⟨ret_bool (by unfold lenS; simp <;> omega), rfl⟩
theorem okD_no {l : List Int} {i : Nat} (hi : i < l.length) (h : ¬ (-1 ≤ l.getD i 0 ∧ l.getD i 0 ≤ 4194304)) : okD l = false := by
  rcases Bool.eq_false_or_eq_true (okD l) with k | k
  · exact absurd (okD_iff.1 k i hi) h
  · exact k
set_option maxHeartbeats 4000000 in
theorem rfvalid17_any (s : Ser) (a : SerA) (w : World) (hs : SerSl w s a) : Calls Try.prog 16 #[s.val a] w (BPost (vS s) w) := by
  obtain ⟨fr, st, l⟩ := s
  obtain ⟨A, c⟩ := a
  have X := (Own.start w).alloc #[.int .i64 fr, .int .i64 st, .slice A l.length c] 24
  have hlen : l.length ≤ 9223372036854775807 := hs.1.1.1
  have IN := hide (fun t W => rinstant_any t W)
  have LE := hide (fun t W => rlength_any t W)
  have hr := X.r1
  have n0 : (0 : Int) ≤ (l.length : Int) := by omega
  have HS := hide hs
  clear hs
  show Calls Try.prog 16 #[.agg #[.int .i64 fr, .int .i64 st, .slice A l.length c]] w _
  have t : insB fr = false ∨ (insB fr = true ∧ lenS st = false) ∨ (insB fr = true ∧ lenS st = true ∧ 10000 < l.length) ∨ (insB fr = true ∧ lenS st = true ∧ l.length ≤ 10000) := by
    cases insB fr <;> cases lenS st <;> simp <;> omega
  rcases t with t | ⟨t, t1⟩ | ⟨t, t1, t3⟩ | ⟨t, t1, t3⟩
  · have V := hide (show vS ⟨fr, st, l⟩ = false by simp [vS, t])
    go_enter Try.func16, Try.ntmps16
    go_wp2_with fail
    refine (IN.out _ _).mono ?_
    rintro e w1 ⟨rfl, rfl⟩
    rw [t]
    go_wp2
    go_ret
    exact BPost.mk V.out X.1
  · have V := hide (show vS ⟨fr, st, l⟩ = false by unfold vS; rw [show decide (1 ≤ st ∧ st ≤ 86400) = false from t1]; simp)
    go_enter Try.func16, Try.ntmps16
    go_wp2_with fail
    refine (IN.out _ _).mono ?_
    rintro e w1 ⟨rfl, rfl⟩
    rw [t]
    go_wp2_with fail
    refine (LE.out _ _).mono ?_
    rintro e w1 ⟨rfl, rfl⟩
    rw [t1]
    go_wp2
    go_ret
    exact BPost.mk V.out X.1
  · have V := hide (show vS ⟨fr, st, l⟩ = false by unfold vS; rw [show decide (l.length ≤ 10000) = false from decide_eq_false (by omega)]; simp)
    have t3' : (10000 : Int) < (l.length : Int) := by omega
    clear t3
    go_enter Try.func16, Try.ntmps16
    go_wp2_with fail
    refine (IN.out _ _).mono ?_
    rintro e w1 ⟨rfl, rfl⟩
    rw [t]
    go_wp2_with fail
    refine (LE.out _ _).mono ?_
    rintro e w1 ⟨rfl, rfl⟩
    rw [t1]
    go_wp2
    go_ret
    exact BPost.mk V.out X.1
  · have tf := of_decide_eq_true t
    have ts := of_decide_eq_true t1
    have b1 : 0 ≤ st * (l.length : Int) := Int.mul_nonneg (by omega) n0
    have b2 : st * (l.length : Int) ≤ 86400 * 10000 := Int.mul_le_mul ts.2 (by omega) n0 (by omega)
    have s1 := IntWalk.i64_in (st * (l.length : Int)) (by omega)
    have s2 := IntWalk.i64_in (fr + st * (l.length : Int)) (by omega)
    have V := hide (show vS ⟨fr, st, l⟩ = (insB (fr + st * l.length) && okD l) by unfold vS; rw [t, show decide (1 ≤ st ∧ st ≤ 86400) = true from t1, show decide (l.length ≤ 10000) = true from decide_eq_true t3]; simp)
    have t3' : ¬ (10000 : Int) < (l.length : Int) := by omega
    have t4 : decide (10000 < l.length) = false := decide_eq_false (by omega)
    have HT3 := hide t3
    clear t3 tf ts b1 b2
    generalize hp : st * (l.length : Int) = p at *
    generalize hq : fr + p = q at *
    rcases Bool.eq_false_or_eq_true (insB q) with u | u
    · go_enter Try.func16, Try.ntmps16
      go_wp2_with fail
      refine (IN.out _ _).mono ?_
      rintro e w1 ⟨rfl, rfl⟩
      rw [t]
      go_wp2_with fail
      refine (LE.out _ _).mono ?_
      rintro e w1 ⟨rfl, rfl⟩
      rw [t1]
      go_wp2_with fail
      refine (IN.out _ _).mono ?_
      rintro e w1 ⟨rfl, rfl⟩
      rw [u]
      go_wp2
      have VU := hide (show vS ⟨fr, st, l⟩ = okD l from V.out.trans (by rw [u]; rfl))
      have HX := hide X.1
      have HC := hide (fun (i : Nat) (hi : i < l.length) => by
        obtain ⟨b, off, e, hbl, hat⟩ := HS.out.1.atg (show 0 < l.length by omega)
        exact (⟨b, off, e, hbl, (X.1.cell (p := ⟨b, off + i, none⟩) hbl).trans (hat i hi)⟩ : ∃ b off, A = some ⟨b, off, none⟩ ∧ b < w.heap.size ∧ (w.alloc (.cells #[.int .i64 fr, .int .i64 st, .slice A l.length c] 24)).cell? ⟨b, off + i, none⟩ = some (.int .i64 (l.getD i 0))))
      go_loop [3] (fun v => ∃ k : Nat, k ≤ l.length ∧ v = .int .i64 (k : Int) ∧ Hid (∀ i, i < k → -1 ≤ l.getD i 0 ∧ l.getD i 0 ≤ 4194304)) (fun v => l.length - (intOf v).toNat)
      case atStart => exact ⟨0, Nat.zero_le _, rfl, hide (fun _ h => by omega)⟩
      case round =>
        obtain ⟨k, hk, rfl, hno⟩ := hrel
        by_cases hlt : k < l.length
        · obtain ⟨b, off, rfl, hbl, c0⟩ := HC.out k hlt
          have NO := hide (@okD_no l k hlt)
          have STEP := hide (fun (h : -1 ≤ l.getD k 0 ∧ l.getD k 0 ≤ 4194304) i (hi : i < k + 1) => (by
            by_cases e : i = k
            · subst e; exact h
            · exact hno.out i (by omega) : -1 ≤ l.getD i 0 ∧ l.getD i 0 ≤ 4194304))
          generalize l.getD k 0 = d at *
          have z : d < -1 ∨ (-1 ≤ d ∧ 4194304 < d) ∨ (-1 ≤ d ∧ d ≤ 4194304) := by omega
          rcases z with z | ⟨z1, z2⟩ | ⟨z1, z2⟩
          · have E := hide (NO.out (by omega))
            go_wp2
            go_ret
            exact BPost.mk (VU.out.trans E.out) HX.out
          · have E := hide (NO.out (by omega))
            go_wp2
            go_ret
            exact BPost.mk (VU.out.trans E.out) HX.out
          · have E := hide (STEP.out ⟨z1, z2⟩)
            go_wp2
            go_round
            case rel => exact ⟨k + 1, by omega, by go_num, E⟩
            case measure => simp [intOf]; omega
        · have E := hide (okD_iff.2 (fun i hi => hno.out i (by omega)))
          go_wp2
          go_ret
          exact BPost.mk (VU.out.trans E.out) HX.out
    · go_enter Try.func16, Try.ntmps16
      go_wp2_with fail
      refine (IN.out _ _).mono ?_
      rintro e w1 ⟨rfl, rfl⟩
      rw [t]
      go_wp2_with fail
      refine (LE.out _ _).mono ?_
      rintro e w1 ⟨rfl, rfl⟩
      rw [t1]
      go_wp2_with fail
      refine (IN.out _ _).mono ?_
      rintro e w1 ⟨rfl, rfl⟩
      rw [u]
      go_wp2
      go_ret
      exact BPost.mk (V.out.trans (by rw [u]; rfl)) X.1
end Go.Proofs.Ytkbocphpnmpaeaa
