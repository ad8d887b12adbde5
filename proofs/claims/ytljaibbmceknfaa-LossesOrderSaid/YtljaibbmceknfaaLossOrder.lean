/- LossesOrder: a fuller store, more rain, and a greater sealed part have no less runoff, and stores stay in their order: for every input the law returns true. -/
import Derived.Test.YtljaibbmceknfaaLossAwake
import Derived.Test.YtljaibbmceknfaaLossLaw
namespace Go.Proofs.Ytljaibbmceknfaa
open Go.RowKit

theorem outN_bad {c : Cls} {s : Sto} {d t : Int} (h : ¬ outE c s d t = 0) : outN c s d t = 0 := by simp [outN, h]
theorem more_cases {c : Cls} {s : Sto} {d m n : Int} (h : outE c s d n = 0) (hm : 0 ≤ m) : (outE c s (d + m) n = 0 ∧ outN c s d n ≤ outN c s (d + m) n) ∨ outE c s (d + m) n = 2 := by
  have P := outE_ok h
  rcases out_cases c s (d + m) n with ⟨a, _⟩ | ⟨_, _, e, _⟩ | ⟨_, _, _, e, _⟩ | ⟨a, b, f, e, g, k⟩
  · rw [P.2.2.2.2.2.2.2.2] at a; cases a
  · exact .inr e
  · exact .inr e
  · refine .inl ⟨e, ?_⟩
    rw [k, P.2.2.2.2.2.2.2.1]
    exact run_more P.1 P.2.1 P.2.2.1 (by omega)
theorem sealed_case {c : Cls} {s : Sto} {d n k : Int} (h : outE c s d n = 0) (h1 : c.se ≤ k) (h2 : k ≤ 1000) : outE { c with se := k } s d n = 0 ∧ outN c s d n ≤ outN { c with se := k } s d n := by
  have P := outE_ok h
  have hv : validSt { c with se := k } s = true := by
    have hv := P.2.2.2.2.2.2.2.2
    simp only [validSt, rightB, Bool.and_eq_true, inB_iff] at hv ⊢
    have := hv.1.1.1.1.1.2
    exact ⟨⟨⟨⟨⟨⟨hv.1.1.1.1.1.1, by omega⟩, hv.1.1.1.1.2⟩, hv.1.1.1.2⟩, hv.1.1.2⟩, hv.1.2⟩, hv.2⟩
  rcases out_cases { c with se := k } s d n with ⟨a, _⟩ | ⟨_, a, _⟩ | ⟨_, _, a, _⟩ | ⟨a, b, f, e, g, k'⟩
  · rw [hv] at a; cases a
  · rw [inB_iff.2 ⟨P.2.2.1, P.2.2.2.1⟩] at a; cases a
  · rw [lenB_iff.2 ⟨P.2.2.2.2.1, P.2.2.2.2.2.1⟩] at a; cases a
  · refine ⟨e, ?_⟩
    rw [k', P.2.2.2.2.2.2.2.1]
    exact run_sealed P.2.1 P.2.2.1 h1
theorem bool3 {e x : Int} (h : e = x) : (e == 0) = (x == 0) ∧ (e != 0) = (x != 0) ∧ (e != 2) = (x != 2) := by subst h; exact ⟨rfl, rfl, rfl⟩
set_option maxRecDepth 100000 in
set_option maxHeartbeats 4000000 in
theorem order_any (c : Cls) (s t : Sto) (d m k n : Int) (w : World) (hnm : c.nm.size ≤ maxLen) :
    Calls Try.prog 3 #[c.val, s.val, t.val, .int .i64 d, .int .i64 m, .int .i64 k, .int .i64 n] w fun e w' => e = .returned (.bool true) ∧ Below w.heap.size w w' := by
  have X := (((Own.start w).alloc #[.string c.nm, .int .i64 c.se, .int .i64 c.we, .int .i64 c.ro, .int .i64 c.dr] 23).alloc #[.int .i64 s.wt, .int .i64 s.he] 25).alloc #[.int .i64 t.wt, .int .i64 t.he] 25
  simp only [World.size_alloc] at X
  by_cases h1 : smallB c = true
  all_goals
    go_enter Try.func3, Try.ntmps3
    go_wp2_with fail
    refine (awake_any _).mono ?_
    rintro e w1 ⟨rfl, hb⟩
    replace X := X.to hb
    clear hb
    have hr := X.r3
    go_wp2_with fail
    refine (small_any c _ hnm).mono ?_
    rintro e w2 ⟨rfl, hb⟩
    replace X := X.to hb
    clear hb hr
    have hr := X.r3
  · have q : m < 0 ∨ (0 ≤ m ∧ 4194304 < m) ∨ (0 ≤ m ∧ m ≤ 4194304 ∧ t.wt < s.wt) ∨ (0 ≤ m ∧ m ≤ 4194304 ∧ s.wt ≤ t.wt ∧ t.he < s.he) ∨ (0 ≤ m ∧ m ≤ 4194304 ∧ s.wt ≤ t.wt ∧ s.he ≤ t.he) := by omega
    rcases q with q | ⟨q1, q⟩ | ⟨q1, q2, q⟩ | ⟨q1, q2, q3, q⟩ | ⟨q1, q2, q3, q4⟩
    · go_wp2
      go_ret
      exact ⟨rfl, X.1⟩
    · go_wp2
      go_ret
      exact ⟨rfl, X.1⟩
    · go_wp2
      go_ret
      exact ⟨rfl, X.1⟩
    · go_wp2
      go_ret
      exact ⟨rfl, X.1⟩
    go_wp2_with fail
    refine (Step_any c s d n _ hnm).mono ?_
    rintro e w3 ⟨rfl, hb⟩
    replace X := X.to hb
    clear hb hr
    have hr := X.r3
    go_wp2_with fail
    refine (Step_any c t d n _ hnm).mono ?_
    rintro e w4 ⟨rfl, hb⟩
    replace X := (X.alloc #[.int .i64 (outS c s d n).wt, .int .i64 (outS c s d n).he] 25).to hb
    clear hb hr
    have hr := X.r4
    by_cases a : outE c s d n = 0 <;> by_cases b : outE c t d n = 0
    rotate_left
    · have f2 : (outE c s d n == 0) = true := by simp [a]
      have f3 : (outE c s d n != 0) = false := by simp [a]
      have g1 : outN c t d n = 0 := outN_bad b
      have g2 : (outE c t d n == 0) = false := by simp [b]
      have g3 : (outE c t d n != 0) = true := by simp [b]
      clear a b
      go_wp2
      go_ret
      exact ⟨rfl, by have HX := X.1; have hz := HX.size; go_grown⟩
    · have f1 : outN c s d n = 0 := outN_bad a
      have f2 : (outE c s d n == 0) = false := by simp [a]
      have f3 : (outE c s d n != 0) = true := by simp [a]
      have g2 : (outE c t d n == 0) = true := by simp [b]
      have g3 : (outE c t d n != 0) = false := by simp [b]
      clear a b
      go_wp2
      go_ret
      exact ⟨rfl, by have HX := X.1; have hz := HX.size; go_grown⟩
    · have f1 : outN c s d n = 0 := outN_bad a
      have f2 : (outE c s d n == 0) = false := by simp [a]
      have f3 : (outE c s d n != 0) = true := by simp [a]
      have g1 : outN c t d n = 0 := outN_bad b
      have g2 : (outE c t d n == 0) = false := by simp [b]
      have g3 : (outE c t d n != 0) = true := by simp [b]
      clear a b
      go_wp2
      go_ret
      exact ⟨rfl, by have HX := X.1; have hz := HX.size; go_grown⟩
    have P := outE_ok a
    have Q := outE_ok b
    have r1 : outN c s d n ≤ outN c t d n := by rw [P.2.2.2.2.2.2.2.1, Q.2.2.2.2.2.2.2.1]; exact run_fuller P.1 P.2.1 Q.2.1 P.2.2.1 q3 q4
    have r2 : (outS c s d n).wt ≤ (outS c t d n).wt ∧ (outS c s d n).he ≤ (outS c t d n).he := by rw [P.2.2.2.2.2.2.1, Q.2.2.2.2.2.2.1]; exact step_fuller P.1 P.2.1 Q.2.1 P.2.2.1 (by omega) q3 q4
    obtain ⟨r2, r3⟩ := r2
    have f2 : (outE c s d n == 0) = true := by simp [a]
    have f3 : (outE c s d n != 0) = false := by simp [a]
    have g2 : (outE c t d n == 0) = true := by simp [b]
    have g3 : (outE c t d n != 0) = false := by simp [b]
    have hd0 := P.2.2.1
    have hd1 := P.2.2.2.1
    have hA := hide a
    have HP := hide P
    clear P Q a b
    go_wp2_with fail
    refine (Step_any c s (d + m) n _ hnm).mono ?_
    rintro e w5 ⟨rfl, hb⟩
    replace X := X.tail.to (below_via (by go_grown) (by go_size) hb)
    clear hb hr
    have hr := X.r3
    have D : (outE c s (d + m) n = 0 ∧ outN c s d n ≤ outN c s (d + m) n) ∨ outE c s (d + m) n = 2 := more_cases hA.out q1
    have S : c.se ≤ k → k ≤ 1000 → outE { c with se := k } s d n = 0 ∧ outN c s d n ≤ outN { c with se := k } s d n := fun u v => sealed_case hA.out u v
    have HS := hide S
    clear S
    have K : k < c.se ∨ (c.se ≤ k ∧ 1000 < k) ∨ (c.se ≤ k ∧ k ≤ 1000) := by omega
    rcases D with ⟨d1, d2⟩ | d1
    all_goals
      have f2 := bool3 d1
      clear d1
      rcases K with K | ⟨K, K2⟩ | ⟨K, K2⟩
      · go_wp2
        go_ret
        exact ⟨rfl, by have HX := X.1; have hz := HX.size; go_grown⟩
      · go_wp2
        go_ret
        exact ⟨rfl, by have HX := X.1; have hz := HX.size; go_grown⟩
      have S := HS.out K K2
      have S2 := S.2
      have s2 := bool3 S.1
      have s3 := hide S.1
      clear S
      go_wp2_with fail
      refine (Step_any { c with se := k } s d n _ hnm).mono ?_
      rintro e w6 ⟨rfl, hb⟩
      have HX := X.1
      have hz := HX.size
      have Z : Below w.heap.size w w6 := by
        refine below_via ?_ ?_ hb
        · go_grown
        · go_size
      clear hb hr
      go_wp2
      go_ret
      exact ⟨rfl, Z.alloc Z.size _⟩
  · go_wp2
    go_ret
    exact ⟨rfl, X.1⟩
end Go.Proofs.Ytljaibbmceknfaa
