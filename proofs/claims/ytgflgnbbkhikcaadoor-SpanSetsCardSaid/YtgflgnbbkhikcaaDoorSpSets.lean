/- SpanSets: Hull and Meet return what the reference says, and have the numbers that they must have: for all spans and numbers the law returns true. -/
import Derived.Test.YtgflgnbbkhikcaaDoorSpAwake
import Derived.Test.YtgflgnbbkhikcaaDoorSpRef2
namespace Go.Proofs.YtgflgnbbkhikcaaDoor
open Go.RowKit

theorem meet_cases (a b : Sp) (n : Int) : (meetE a b = 0 ∧ hasB (meetS a b) n = (hasB a n && hasB b n)) ∨ (meetE a b = 21 ∧ (hasB a n && hasB b n) = false) := by
  by_cases h : (meetV a b).lo ≤ (meetV a b).hi
  · refine .inl ⟨by simp [meetE, h], ?_⟩
    have : meetS a b = meetV a b := by simp [meetS, h]
    rw [this, Bool.eq_iff_iff]
    simp only [hasB, Bool.and_eq_true, decide_eq_true_eq]
    show ((if a.lo < b.lo then b.lo else a.lo) ≤ n ∧ n ≤ (if b.hi < a.hi then b.hi else a.hi)) ↔ _
    split <;> split <;> omega
  · refine .inr ⟨by simp only [meetE, if_neg h], ?_⟩
    simp only [meetV] at h
    cases e : (hasB a n && hasB b n)
    · rfl
    · exfalso
      simp only [hasB, Bool.and_eq_true, decide_eq_true_eq] at e
      revert h
      split <;> split <;> omega
theorem hull_has {a b : Sp} {n : Int} (h : hasB a n = true ∨ hasB b n = true) : hasB (hullS a b) n = true := by
  simp only [hasB, Bool.and_eq_true, decide_eq_true_eq] at h ⊢
  show (if b.lo < a.lo then b.lo else a.lo) ≤ n ∧ n ≤ (if a.hi < b.hi then b.hi else a.hi)
  split <;> split <;> omega
set_option maxRecDepth 100000 in
set_option maxHeartbeats 4000000 in
theorem sets_law (a b : Sp) (n : Int) (w : World) : Calls Tryd.prog 8 #[a.val, b.val, .int .i64 n] w fun e w' => e = .returned (.bool true) ∧ Below w.heap.size w w' := by
  have X := (((Own.start w).alloc #[.int .i64 a.lo, .int .i64 a.hi] 23).alloc #[.int .i64 b.lo, .int .i64 b.hi] 23)
  simp only [World.size_alloc] at X

  rcases Bool.eq_false_or_eq_true (vB a) with ha | ha
  rotate_left
  · have A1 := fun w => calls_se (hull_any a b w) (t := ⟨0, 0⟩) (er' := 1) (op2_no1 ha 0 _).2 (op2_no1 ha _ Sp.zero).1
    have A2 := fun w => calls_se (meet_any a b w) (t := ⟨0, 0⟩) (er' := 1) (op2_no1 ha 0 _).2 (op2_no1 ha _ Sp.zero).1
    have A4 := rvalid_any a
    rw [ha] at A4
    clear ha
    go_enter Tryd.func8, Tryd.ntmps8
    have hr := X.r2
    go_wp2_with fail
    refine (awake_any _).mono ?_
    rintro e w0 ⟨rfl, hb⟩
    replace X := X.to hb
    clear hb hr
    have hr := X.r2
    go_wp2_with fail
    refine (A1 _).mono ?_
    rintro e w1 ⟨rfl, hb⟩
    replace X := (X.to hb).alloc #[.int .i64 0, .int .i64 0] 23
    clear hb hr
    have hr := X.r3
    go_wp2_with fail
    refine (A2 _).mono ?_
    rintro e w2 ⟨rfl, hb⟩
    replace X := (X.to hb).alloc #[.int .i64 0, .int .i64 0] 23
    clear hb hr
    have hr := X.r4
    go_wp2_with fail
    refine (A4 _).mono ?_
    rintro e w3 ⟨rfl, hb⟩
    replace X := X.to hb
    clear hb hr
    have hr := X.r4
    go_wp2
    go_ret
    exact ⟨rfl, by have HX := X.1; have hz := HX.size; go_grown⟩
  have A4 := rvalid_any a
  have A6 := rvalid_any b
  rw [ha] at A4
  rcases Bool.eq_false_or_eq_true (vB b) with hb' | hb'
  rotate_left
  · have A1 := fun w => calls_se (hull_any a b w) (t := ⟨0, 0⟩) (er' := 1) (op2_no2 hb' 0 _).2 (op2_no2 hb' _ Sp.zero).1
    have A2 := fun w => calls_se (meet_any a b w) (t := ⟨0, 0⟩) (er' := 1) (op2_no2 hb' 0 _).2 (op2_no2 hb' _ Sp.zero).1
    rw [hb'] at A6
    clear ha hb'
    go_enter Tryd.func8, Tryd.ntmps8
    have hr := X.r2
    go_wp2_with fail
    refine (awake_any _).mono ?_
    rintro e w0 ⟨rfl, hb⟩
    replace X := X.to hb
    clear hb hr
    have hr := X.r2
    go_wp2_with fail
    refine (A1 _).mono ?_
    rintro e w1 ⟨rfl, hb⟩
    replace X := (X.to hb).alloc #[.int .i64 0, .int .i64 0] 23
    clear hb hr
    have hr := X.r3
    go_wp2_with fail
    refine (A2 _).mono ?_
    rintro e w2 ⟨rfl, hb⟩
    replace X := (X.to hb).alloc #[.int .i64 0, .int .i64 0] 23
    clear hb hr
    have hr := X.r4
    go_wp2_with fail
    refine (A4 _).mono ?_
    rintro e w3 ⟨rfl, hb⟩
    replace X := X.to hb
    clear hb hr
    have hr := X.r4
    go_wp2_with fail
    refine (A6 _).mono ?_
    rintro e w4 ⟨rfl, hb⟩
    replace X := X.to hb
    clear hb hr
    have hr := X.r4
    go_wp2
    go_ret
    exact ⟨rfl, by have HX := X.1; have hz := HX.size; go_grown⟩
  have A1 := fun w => calls_se (hull_any a b w) (op2_yes ha hb' 0 _).2 (op2_yes ha hb' _ Sp.zero).1
  have A2 := fun w => calls_se (meet_any a b w) (op2_yes ha hb' 0 _).2 (op2_yes ha hb' _ Sp.zero).1
  have A7 := rmeet_any a b
  have A8 := rhull_any a b
  have A9 := has_any a n
  have A10 := has_any b n
  have A11 := has_any (meetS a b) n
  have A12 := has_any (hullS a b) n
  have MC := meet_cases a b n
  have HH := @hull_has a b n
  rw [hb'] at A6
  clear ha hb'
  generalize meetS a b = m at *
  generalize hullS a b = h at *
  generalize meetE a b = em at *
  generalize hasB m n = bm at *
  generalize hasB h n = bh at *
  generalize hasB a n = ba at *
  generalize hasB b n = bb at *
  go_enter Tryd.func8, Tryd.ntmps8
  have hr := X.r2
  go_wp2_with fail
  refine (awake_any _).mono ?_
  rintro e w0 ⟨rfl, hb⟩
  replace X := X.to hb
  clear hb hr
  have hr := X.r2
  go_wp2_with fail
  refine (A1 _).mono ?_
  rintro e w1 ⟨rfl, hb⟩
  replace X := (X.to hb).alloc #[.int .i64 h.lo, .int .i64 h.hi] 23
  clear hb hr
  have hr := X.r3
  go_wp2_with fail
  refine (A2 _).mono ?_
  rintro e w2 ⟨rfl, hb⟩
  replace X := (X.to hb).alloc #[.int .i64 m.lo, .int .i64 m.hi] 23
  clear hb hr
  have hr := X.r4
  go_wp2_with fail
  refine (A4 _).mono ?_
  rintro e w3 ⟨rfl, hb⟩
  replace X := X.to hb
  clear hb hr
  have hr := X.r4
  go_wp2_with fail
  refine (A6 _).mono ?_
  rintro e w4 ⟨rfl, hb⟩
  replace X := X.to hb
  clear hb hr
  have hr := X.r4
  go_wp2_with fail
  refine (A7 _).mono ?_
  rintro e w5 ⟨rfl, hb⟩
  replace X := (X.to hb).alloc #[.int .i64 m.lo, .int .i64 m.hi] 23
  clear hb hr
  have hr := X.r5
  go_wp2_with fail
  generalize w1.heap.size = nx at *
  generalize w2.heap.size = ny at *
  generalize w5.heap.size = nz at *
  generalize w5.alloc (.cells #[.int .i64 m.lo, .int .i64 m.hi] 23) = W at *
  have HX := hide X
  clear X
  go_region_held3 (fun w' => w'.cell? ⟨w.heap.size, 0, none⟩ = some (.int .i64 a.lo) ∧ w'.cell? ⟨w.heap.size, 1, none⟩ = some (.int .i64 a.hi) ∧ w'.cell? ⟨w.heap.size + 1, 0, none⟩ = some (.int .i64 b.lo) ∧ w'.cell? ⟨w.heap.size + 1, 1, none⟩ = some (.int .i64 b.hi) ∧ w'.cell? ⟨nx, 0, none⟩ = some (.int .i64 h.lo) ∧ w'.cell? ⟨nx, 1, none⟩ = some (.int .i64 h.hi) ∧ w'.cell? ⟨ny, 0, none⟩ = some (.int .i64 m.lo) ∧ w'.cell? ⟨ny, 1, none⟩ = some (.int .i64 m.hi) ∧ w'.cell? ⟨nz, 0, none⟩ = some (.int .i64 m.lo) ∧ w'.cell? ⟨nz, 1, none⟩ = some (.int .i64 m.hi)) (go_keep) (first | (go_at_call 29; refine (A8 _).mono ?_; rintro e w' ⟨rfl, hb1⟩; have hk1 := keeps hb1))
  have Y := HX.out.drew.to hb1
  clear hk1 hb1 hr HX
  have hr := Y.r5
  have HY := hide Y
  clear Y
  go_wp2_with fail
  go_region_held3 (fun w' => w'.cell? ⟨w.heap.size, 0, none⟩ = some (.int .i64 a.lo) ∧ w'.cell? ⟨w.heap.size, 1, none⟩ = some (.int .i64 a.hi) ∧ w'.cell? ⟨w.heap.size + 1, 0, none⟩ = some (.int .i64 b.lo) ∧ w'.cell? ⟨w.heap.size + 1, 1, none⟩ = some (.int .i64 b.hi)) (go_keep) (first | (go_at_call 24; ((with_reducible refine (A9 _).mono ?_); rintro e w' ⟨rfl, hb1⟩); have hk1 := keeps hb1) | (go_at_call 24; ((with_reducible refine (A10 _).mono ?_); rintro e w' ⟨rfl, hb2⟩); have hk2 := keeps hb2))
  have Y := (HY.out.drew.to hb1).to hb2
  clear hk1 hk2 hb1 hb2 hr HY
  have hr := Y.r5
  rcases MC with ⟨q1, q2⟩ | ⟨q1, q2⟩
  · subst q1
    cases ba <;> cases bb
    · replace q2 : bm = false := q2
      subst q2
      clear HH
      go_wp2_with fail
      refine (A11 _).mono ?_
      rintro e w8 ⟨rfl, hb⟩
      replace Y := Y.to hb
      clear hb hr
      have hr := Y.r5
      go_wp2
      go_ret
      exact ⟨rfl, Y.1⟩
    · replace q2 : bm = false := q2
      subst q2
      have e2 : bh = true := HH (by simp)
      subst e2
      clear HH
      go_wp2_with fail
      refine (A11 _).mono ?_
      rintro e w8 ⟨rfl, hb⟩
      replace Y := Y.to hb
      clear hb hr
      have hr := Y.r5
      go_wp2_with fail
      refine (A12 _).mono ?_
      rintro e w9 ⟨rfl, hb⟩
      replace Y := Y.to hb
      clear hb hr
      have hr := Y.r5
      go_wp2
      go_ret
      exact ⟨rfl, Y.1⟩
    · replace q2 : bm = false := q2
      subst q2
      have e2 : bh = true := HH (by simp)
      subst e2
      clear HH
      go_wp2_with fail
      refine (A11 _).mono ?_
      rintro e w8 ⟨rfl, hb⟩
      replace Y := Y.to hb
      clear hb hr
      have hr := Y.r5
      go_wp2_with fail
      refine (A12 _).mono ?_
      rintro e w9 ⟨rfl, hb⟩
      replace Y := Y.to hb
      clear hb hr
      have hr := Y.r5
      go_wp2
      go_ret
      exact ⟨rfl, Y.1⟩
    · replace q2 : bm = true := q2
      subst q2
      have e2 : bh = true := HH (by simp)
      subst e2
      clear HH
      go_wp2_with fail
      refine (A11 _).mono ?_
      rintro e w8 ⟨rfl, hb⟩
      replace Y := Y.to hb
      clear hb hr
      have hr := Y.r5
      go_wp2_with fail
      refine (A12 _).mono ?_
      rintro e w9 ⟨rfl, hb⟩
      replace Y := Y.to hb
      clear hb hr
      have hr := Y.r5
      go_wp2
      go_ret
      exact ⟨rfl, Y.1⟩
  · subst q1
    cases ba <;> cases bb
    · clear HH q2
      go_wp2
      go_ret
      exact ⟨rfl, Y.1⟩
    · have e2 : bh = true := HH (by simp)
      subst e2
      clear HH q2
      go_wp2_with fail
      refine (A12 _).mono ?_
      rintro e w9 ⟨rfl, hb⟩
      replace Y := Y.to hb
      clear hb hr
      have hr := Y.r5
      go_wp2
      go_ret
      exact ⟨rfl, Y.1⟩
    · have e2 : bh = true := HH (by simp)
      subst e2
      clear HH q2
      go_wp2_with fail
      refine (A12 _).mono ?_
      rintro e w9 ⟨rfl, hb⟩
      replace Y := Y.to hb
      clear hb hr
      have hr := Y.r5
      go_wp2
      go_ret
      exact ⟨rfl, Y.1⟩
    · cases q2
end Go.Proofs.YtgflgnbbkhikcaaDoor
