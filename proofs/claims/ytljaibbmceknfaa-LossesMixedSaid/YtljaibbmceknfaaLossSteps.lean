/- LossesSteps: ValidStore, Step, and Drained return what the reference says: for every input the law returns true. -/
import Derived.Test.YtljaibbmceknfaaLossRef
namespace Go.Proofs.Ytljaibbmceknfaa
open Go.RowKit

theorem out_bad {c : Cls} {s : Sto} {d t : Int} (h : validSt c s = false) : outE c s d t = 1 ∧ (outS c s d t).wt = 0 ∧ (outS c s d t).he = 0 ∧ outN c s d t = 0 := by
  rcases out_cases c s d t with ⟨_, a, b, e⟩ | ⟨a, _⟩ | ⟨a, _⟩ | ⟨a, _⟩
  · rw [b]; exact ⟨a, rfl, rfl, e⟩
  · rw [h] at a; cases a
  · rw [h] at a; cases a
  · rw [h] at a; cases a
theorem out_range {c : Cls} {s : Sto} {d t : Int} (h : validSt c s = true) (hr : rangesB d t = false) : outE c s d t = 2 ∧ (outS c s d t).wt = 0 ∧ (outS c s d t).he = 0 ∧ outN c s d t = 0 := by
  rcases out_cases c s d t with ⟨a, _⟩ | ⟨_, _, a, b, e⟩ | ⟨_, _, _, a, b, e⟩ | ⟨_, x, y, _⟩
  · rw [h] at a; cases a
  · rw [b]; exact ⟨a, rfl, rfl, e⟩
  · rw [b]; exact ⟨a, rfl, rfl, e⟩
  · simp [rangesB, x, y] at hr
theorem out_ok {c : Cls} {s : Sto} {d t : Int} (h : validSt c s = true) (hr : rangesB d t = true) : outE c s d t = 0 ∧ outS c s d t = stepS c s d t ∧ outN c s d t = runoff c s d := by
  simp only [rangesB, Bool.and_eq_true] at hr
  rcases out_cases c s d t with ⟨a, _⟩ | ⟨_, a, _⟩ | ⟨_, _, a, _⟩ | ⟨_, x, y, a, b, e⟩
  · rw [h] at a; cases a
  · rw [hr.1] at a; cases a
  · rw [hr.2] at a; cases a
  · exact ⟨a, b, e⟩
theorem valid_eq (c : Cls) (s : Sto) : validSt c s = (rightB c && holdsB c s) := by
  simp only [validSt, holdsB, Bool.and_assoc]
theorem ranges0 (t : Int) : rangesB 0 t = lenB t := by simp [rangesB, inB]

set_option maxRecDepth 100000 in
set_option maxHeartbeats 4000000 in
theorem steps_any (c : Cls) (s : Sto) (d n : Int) (w : World) (hnm : c.nm.size ≤ maxLen) :
    Calls Try.prog 4 #[c.val, s.val, .int .i64 d, .int .i64 n] w fun e w' => e = .returned (.bool true) ∧ Below w.heap.size w w' := by
  have X := ((Own.start w).alloc #[.string c.nm, .int .i64 c.se, .int .i64 c.we, .int .i64 c.ro, .int .i64 c.dr] 23).alloc #[.int .i64 s.wt, .int .i64 s.he] 25
  simp only [World.size_alloc] at X
  by_cases h1 : smallB c = true
  all_goals
    go_enter Try.func4, Try.ntmps4
    go_wp2_with fail
    refine (awake_any _).mono ?_
    rintro e w1 ⟨rfl, hb⟩
    replace X := X.to hb
    clear hb
    have hr := X.r2
    go_wp2_with fail
    refine (small_any c _ hnm).mono ?_
    rintro e w2 ⟨rfl, hb⟩
    replace X := X.to hb
    clear hb hr
    have hr := X.r2
  rotate_left
  · go_wp2
    go_ret
    exact ⟨rfl, X.1⟩
  go_wp2_with fail
  refine (Step_any c s d n _ hnm).mono ?_
  rintro e w3 ⟨rfl, hb⟩
  replace X := X.to hb
  clear hb hr
  have hr := X.r2
  go_wp2_with fail
  refine (Drained_any c s n _ hnm).mono ?_
  rintro e w4 ⟨rfl, hb⟩
  replace X := (X.alloc #[.int .i64 (outS c s d n).wt, .int .i64 (outS c s d n).he] 25).to hb
  clear hb hr
  have hr := X.r3
  go_wp2_with fail
  replace X := X.alloc #[.int .i64 (outS c s 0 n).wt, .int .i64 (outS c s 0 n).he] 25
  refine (rval_any c _ hnm).mono ?_
  rintro e w5 ⟨rfl, hb⟩
  replace X := X.to hb
  clear hb hr
  have hr := X.r4
  generalize w4.heap.size = b4 at *
  generalize w3.heap.size = b3 at *
  have T : (rightB c = false ∧ validSt c s = false) ∨ (rightB c = true ∧ holdsB c s = false ∧ validSt c s = false) ∨ (rightB c = true ∧ holdsB c s = true ∧ validSt c s = true) := by
    rw [valid_eq]; cases rightB c <;> cases holdsB c s <;> simp
  rcases T with ⟨t1, t2⟩ | ⟨t1, t2, t3⟩ | ⟨t1, t2, t3⟩
  · obtain ⟨o1, o2, o3, o4⟩ := out_bad (d := d) (t := n) t2
    obtain ⟨u1, u2, u3, u4⟩ := out_bad (d := 0) (t := n) t2
    have u5 : drN c s n = 0 := drN_bad (by unfold drE; omega)
    have u6 : drE c s n = 1 := u1
    clear u1 u4
    go_wp2_with fail
    refine (validStore_any c s _ hnm).mono ?_
    rintro e w' ⟨rfl, hb⟩
    replace X := X.to hb
    clear hb hr
    have hr := X.r4
    go_wp2
    go_ret
    exact ⟨rfl, X.1⟩
  · obtain ⟨o1, o2, o3, o4⟩ := out_bad (d := d) (t := n) t3
    obtain ⟨u1, u2, u3, u4⟩ := out_bad (d := 0) (t := n) t3
    have u5 : drN c s n = 0 := drN_bad (by unfold drE; omega)
    have u6 : drE c s n = 1 := u1
    clear u1 u4
    go_wp2_with fail
    refine (holds_any c s _).mono ?_
    rintro e w' ⟨rfl, hb⟩
    replace X := X.to hb
    clear hb hr
    have hr := X.r4
    go_wp2_with fail
    refine (validStore_any c s _ hnm).mono ?_
    rintro e w' ⟨rfl, hb⟩
    replace X := X.to hb
    clear hb hr
    have hr := X.r4
    go_wp2
    go_ret
    exact ⟨rfl, X.1⟩
  go_wp2_with fail
  refine (holds_any c s _).mono ?_
  rintro e w' ⟨rfl, hb⟩
  replace X := X.to hb
  clear hb hr
  have hr := X.r4
  go_wp2_with fail
  refine (validStore_any c s _ hnm).mono ?_
  rintro e w' ⟨rfl, hb⟩
  replace X := X.to hb
  clear hb hr
  have hr := X.r4
  go_wp2_with fail
  refine (ranges_any d n _).mono ?_
  rintro e w' ⟨rfl, rfl⟩
  obtain ⟨v1, v2⟩ := validSt_iff t3
  have V := hide (And.intro v1 v2)
  clear v1 v2
  have Z := hide t3
  have r0 := ranges0 n
  rcases Bool.eq_false_or_eq_true (rangesB d n) with q | q
  · obtain ⟨o1, o2, o3⟩ := out_ok t3 q
    have q2 : lenB n = true := by simp only [rangesB, Bool.and_eq_true] at q; exact q.2
    obtain ⟨u1, u2, u3⟩ := out_ok (d := 0) t3 (r0.trans q2)
    have l1 := lenB_iff.1 q2
    have l2 : 0 ≤ d ∧ d ≤ 4194304 := by simp only [rangesB, Bool.and_eq_true, inB_iff] at q; exact q.1
    have u5 : drN c s n = (s.he - (stepS c s 0 n).he) * (1000 - c.se) + (s.wt - (stepS c s 0 n).wt) * 1000 := by unfold drN drE; rw [if_pos u1, u2]
    have u6 : drE c s n = 0 := u1
    clear u1 u3
    go_wp2_with fail
    refine (rstep_any c s d n _ V.out.1 V.out.2 l2.1 l2.2 (by omega) l1.2).mono ?_
    rintro e w' ⟨rfl, hb⟩
    replace X := X.to hb
    clear hb hr
    have hr := X.r4
    go_wp2_with fail
    refine (ranges_any 0 n _).mono ?_
    rintro e w' ⟨rfl, rfl⟩
    go_wp2_with fail
    refine (rdrained_any c s n _ V.out.1 V.out.2 l1.1 l1.2).mono ?_
    rintro e w' ⟨rfl, hb⟩
    replace X := X.to (below_via (by go_grown) (by go_size) hb)
    clear hb hr
    have hr := X.r4
    go_wp2
    go_ret
    exact ⟨rfl, X.1.alloc X.1.size _⟩
  · obtain ⟨o1, o2, o3, o4⟩ := out_range t3 q
    rcases Bool.eq_false_or_eq_true (lenB n) with q2 | q2
    · obtain ⟨u1, u2, u3⟩ := out_ok (d := 0) t3 (r0.trans q2)
      have l1 := lenB_iff.1 q2
      have u5 : drN c s n = (s.he - (stepS c s 0 n).he) * (1000 - c.se) + (s.wt - (stepS c s 0 n).wt) * 1000 := by unfold drN drE; rw [if_pos u1, u2]
      have u6 : drE c s n = 0 := u1
      clear u1 u3
      go_wp2_with fail
      refine (ranges_any 0 n _).mono ?_
      rintro e w' ⟨rfl, rfl⟩
      go_wp2_with fail
      refine (rdrained_any c s n _ V.out.1 V.out.2 l1.1 l1.2).mono ?_
      rintro e w' ⟨rfl, hb⟩
      replace X := X.to hb
      clear hb hr
      have hr := X.r4
      go_wp2
      go_ret
      exact ⟨rfl, X.1.alloc X.1.size _⟩
    · obtain ⟨u1, u2, u3, u4⟩ := out_range (d := 0) t3 (r0.trans q2)
      have u5 : drN c s n = 0 := drN_bad (by unfold drE; omega)
      have u6 : drE c s n = 2 := u1
      clear u1 u4
      go_wp2_with fail
      refine (ranges_any 0 n _).mono ?_
      rintro e w' ⟨rfl, rfl⟩
      go_wp2
      go_ret
      exact ⟨rfl, X.1⟩
end Go.Proofs.Ytljaibbmceknfaa
