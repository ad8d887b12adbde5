/- LossesRuns: Run and Lost return what is specified, or the specified errors: for every input the law returns true. -/
import Derived.Test.YtljaibbmceknfaaLossRuns2
namespace Go.Proofs.Ytljaibbmceknfaa
open Go.RowKit

set_option maxRecDepth 100000 in
set_option maxHeartbeats 4000000 in
theorem runs_any (c : Cls) (s : Sto) (l : List Int) (A : Option Addr) (cap : Nat) (t : Int) (w : World) (hnm : c.nm.size ≤ maxLen) (hl : IntSl w A l) :
    Calls Try.prog 8 #[c.val, s.val, .slice A l.length cap, .int .i64 t] w fun e w' => e = .returned (.bool true) ∧ Below w.heap.size w w' := by
  have hlen : l.length ≤ 9223372036854775807 := by have := hl.1.1; omega
  by_cases hok : smallB c = true ∧ l.length ≤ 100 ∧ rightB c = true ∧ lenB t = true ∧ depB l = true
  · obtain ⟨h1, L1, q1, q2, q3⟩ := hok
    rcases runs_cases c s l t with ⟨a1, _⟩ | ⟨_, a2, _⟩ | ⟨_, _, a3, _⟩ | ⟨_, _, _, a4, _⟩ | ⟨a1, a2, a3, a4, a5, a6⟩
    · rw [q1] at a1; cases a1
    · omega
    · rw [q2] at a3; cases a3
    · rw [q3] at a4; cases a4
    · exact runs_ok c s l A cap t w hnm hl h1 L1 a1 a2 a3 a4 a5 a6
  have HNO := hide hok
  clear hok
  have HL := hide hl
  clear hl
  have X := ((Own.start w).alloc #[.string c.nm, .int .i64 c.se, .int .i64 c.we, .int .i64 c.ro, .int .i64 c.dr] 23).alloc #[.int .i64 s.wt, .int .i64 s.he] 25
  simp only [World.size_alloc] at X
  by_cases h1 : smallB c = true
  all_goals
    go_enter Try.func8, Try.ntmps8
    go_wp2_with fail
    refine (awake_any _).mono ?_
    rintro e w1 ⟨rfl, hb⟩
    replace X := X.to hb
    clear hb
    have hr := X.r2
    go_wp2_with fail
    refine (small_any c _ hnm).mono ?_
    rintro e w2 ⟨rfl, hb⟩
    replace X := X.to hb
    clear hb hr
    have hr := X.r2
  rotate_left
  · go_wp2
    go_ret
    exact ⟨rfl, X.1⟩
  have L : (l.length ≤ 100 ∨ 10000 < l.length) ∧ l.length ≤ 10005 ∨ (100 < l.length ∧ l.length ≤ 10000) ∨ 10005 < l.length := by omega
  rcases L with L | L | L
  rotate_left
  · obtain ⟨L1, L2⟩ := L
    go_wp2
    go_ret
    exact ⟨rfl, X.1⟩
  · go_wp2
    go_ret
    exact ⟨rfl, X.1⟩
  obtain ⟨L1, L2⟩ := L
  rcases runs_cases c s l t with ⟨a1, a2, a3⟩ | ⟨a1, a2, a3, a4⟩ | ⟨a1, a2, a3, a4, a5⟩ | ⟨a1, a2, a3, a4, a5, a6⟩ | ⟨a1, a2, a3, a4, a5, a6⟩
  · rcases L1 with L1 | L1
    all_goals
      go_wp2_with fail
      refine (run_any c s l A cap t _ hnm (HL.out.below X.1)).mono ?_
      rintro e w3 ⟨hb, er, S, B, xs, cp, rfl, hxs, hfr, her, hok, hbad⟩
      have her' := her.trans a2
      clear hok
      subst her'
      obtain ⟨q1, q2⟩ := hbad (by decide)
      subst q1 q2
      clear hbad
      replace X := (X.to hb).alloc #[.int .i64 Sto.zero.wt, .int .i64 Sto.zero.he] 25
      clear hb hr hxs her hfr
      have hr := X.r3
      go_wp2_with fail
      refine (lost_any c l A cap t _ hnm (HL.out.below X.1)).mono ?_
      rintro e w4 ⟨hb, er, her, hok⟩
      rw [a3] at her
      subst her
      have hok' := hok.resolve_left (by simp)
      obtain ⟨-, rfl⟩ := hok'
      replace X := X.to hb
      clear hok hb hr
      have hr := X.r3
      go_wp2_with fail
      refine (rval_any c _ hnm).mono ?_
      rintro e w5 ⟨rfl, hb⟩
      replace X := X.to hb
      clear hb hr
      have hr := X.r3
      go_wp2_with fail
      refine (rval_any c _ hnm).mono ?_
      rintro e w6 ⟨rfl, hb⟩
      replace X := X.to hb
      clear hb hr
      have hr := X.r3
      go_wp2
      go_ret
      exact ⟨rfl, X.1⟩
  · have L3 : 10000 < l.length := a2
    rcases a4 with ⟨b1, b2⟩ | ⟨b1, b2⟩
    all_goals
      go_wp2_with fail
      refine (run_any c s l A cap t _ hnm (HL.out.below X.1)).mono ?_
      rintro e w3 ⟨hb, er, S, B, xs, cp, rfl, hxs, hfr, her, hok, hbad⟩
      have her' := her.trans b2
      clear hok
      subst her'
      obtain ⟨q1, q2⟩ := hbad (by decide)
      subst q1 q2
      clear hbad
      replace X := (X.to hb).alloc #[.int .i64 Sto.zero.wt, .int .i64 Sto.zero.he] 25
      clear hb hr hxs her hfr
      have hr := X.r3
      go_wp2_with fail
      refine (lost_any c l A cap t _ hnm (HL.out.below X.1)).mono ?_
      rintro e w4 ⟨hb, er, her, hok⟩
      rw [a3] at her
      subst her
      have hok' := hok.resolve_left (by simp)
      obtain ⟨-, rfl⟩ := hok'
      replace X := X.to hb
      clear hok hb hr
      have hr := X.r3
      go_wp2_with fail
      refine (rval_any c _ hnm).mono ?_
      rintro e w5 ⟨rfl, hb⟩
      replace X := X.to hb
      clear hb hr
      have hr := X.r3
      go_wp2_with fail
      refine (rval_any c _ hnm).mono ?_
      rintro e w6 ⟨rfl, hb⟩
      replace X := X.to hb
      clear hb hr
      have hr := X.r3
      go_wp2_with fail
      refine (holds_any c s _).mono ?_
      rintro e w7 ⟨rfl, hb⟩
      replace X := X.to hb
      clear hb hr
      have hr := X.r3
      go_wp2
      go_ret
      exact ⟨rfl, X.1⟩
  · have L3 : l.length ≤ 100 := by omega
    rcases a5 with ⟨b1, b2⟩ | ⟨b1, b2⟩
    all_goals
      go_wp2_with fail
      refine (run_any c s l A cap t _ hnm (HL.out.below X.1)).mono ?_
      rintro e w3 ⟨hb, er, S, B, xs, cp, rfl, hxs, hfr, her, hok, hbad⟩
      have her' := her.trans b2
      clear hok
      subst her'
      obtain ⟨q1, q2⟩ := hbad (by decide)
      subst q1 q2
      clear hbad
      replace X := (X.to hb).alloc #[.int .i64 Sto.zero.wt, .int .i64 Sto.zero.he] 25
      clear hb hr hxs her hfr
      have hr := X.r3
      go_wp2_with fail
      refine (lost_any c l A cap t _ hnm (HL.out.below X.1)).mono ?_
      rintro e w4 ⟨hb, er, her, hok⟩
      rw [a4] at her
      subst her
      have hok' := hok.resolve_left (by simp)
      obtain ⟨-, rfl⟩ := hok'
      replace X := X.to hb
      clear hok hb hr
      have hr := X.r3
      go_wp2_with fail
      refine (rval_any c _ hnm).mono ?_
      rintro e w5 ⟨rfl, hb⟩
      replace X := X.to hb
      clear hb hr
      have hr := X.r3
      go_wp2_with fail
      refine (ranges_any 0 t _).mono ?_
      rintro e w' ⟨rfl, rfl⟩
      rw [ranges0]
      go_wp2_with fail
      refine (rval_any c _ hnm).mono ?_
      rintro e w6 ⟨rfl, hb⟩
      replace X := X.to hb
      clear hb hr
      have hr := X.r3
      go_wp2_with fail
      refine (holds_any c s _).mono ?_
      rintro e w7 ⟨rfl, hb⟩
      replace X := X.to hb
      clear hb hr
      have hr := X.r3
      go_wp2
      go_ret
      exact ⟨rfl, X.1⟩
  · have L3 : l.length ≤ 100 := by omega
    rcases a6 with ⟨b1, b2⟩ | ⟨b1, b2⟩
    all_goals
      go_wp2_with fail
      refine (run_any c s l A cap t _ hnm (HL.out.below X.1)).mono ?_
      rintro e w3 ⟨hb, er, S, B, xs, cp, rfl, hxs, hfr, her, hok, hbad⟩
      have her' := her.trans b2
      clear hok
      subst her'
      obtain ⟨q1, q2⟩ := hbad (by decide)
      subst q1 q2
      clear hbad
      replace X := (X.to hb).alloc #[.int .i64 Sto.zero.wt, .int .i64 Sto.zero.he] 25
      clear hb hr hxs her hfr
      have hr := X.r3
      go_wp2_with fail
      refine (lost_any c l A cap t _ hnm (HL.out.below X.1)).mono ?_
      rintro e w4 ⟨hb, er, her, hok⟩
      rw [a5] at her
      subst her
      have hok' := hok.resolve_left (by simp)
      obtain ⟨-, rfl⟩ := hok'
      replace X := X.to hb
      clear hok hb hr
      have hr := X.r3
      go_wp2_with fail
      refine (rval_any c _ hnm).mono ?_
      rintro e w5 ⟨rfl, hb⟩
      replace X := X.to hb
      clear hb hr
      have hr := X.r3
      go_wp2_with fail
      refine (ranges_any 0 t _).mono ?_
      rintro e w' ⟨rfl, rfl⟩
      rw [ranges0]
      have hany : (l.any fun d => !(inB d 4194304)) = true := by rw [any_depB, a4]; rfl
      go_wp2_with fail
      refine (contI_any 27 (fun d => !(inB d 4194304)) runsfn_any (fun _ _ => rfl) l A cap _ (HL.out.below X.1)).mono ?_
      rintro e w' ⟨rfl, rfl⟩
      go_wp2_with fail
      refine (rval_any c _ hnm).mono ?_
      rintro e w6 ⟨rfl, hb⟩
      replace X := X.to hb
      clear hb hr
      have hr := X.r3
      go_wp2_with fail
      refine (holds_any c s _).mono ?_
      rintro e w7 ⟨rfl, hb⟩
      replace X := X.to hb
      clear hb hr
      have hr := X.r3
      go_wp2
      go_ret
      exact ⟨rfl, X.1⟩
  exact absurd ⟨h1, by omega, a1, a3, a4⟩ HNO.out
end Go.Proofs.Ytljaibbmceknfaa
