/- The reference's losses: Valid, Holds, Ranges, Rain, Step, Drained: what each returns; nothing that was there is turned. -/
import Derived.Test.YtljaibbmceknfaaClsRef
import Derived.Test.YtljaibbmceknfaaLossAwake
namespace Go.Proofs.Ytljaibbmceknfaa
open Go.RowKit

set_option maxHeartbeats 1000000 in
theorem rval_any (c : Cls) (w : World) (hnm : c.nm.size ≤ maxLen) :
    Calls Try.prog 14 #[c.val] w fun e w' => e = .returned (.bool (rightB c)) ∧ Below w.heap.size w w' := by
  go_enter Try.func14, Try.ntmps14
  go_wp2_with fail
  have hs := ClsSl.one (w.alloc (.cells #[.string c.nm, .int .i64 c.se, .int .i64 c.we, .int .i64 c.ro, .int .i64 c.dr] 23)) c 23 hnm
  simp only [World.size_alloc] at hs
  have h45 := rvalid_any [c] _ 1 _ hs
  simp only [List.length_singleton] at h45
  refine h45.mono ?_
  rintro e w1 ⟨rfl, hb⟩
  go_wp2
  go_ret
  refine ⟨ret_bool (validB_one c), Below.trans ?_ (hb.mono (by go_size))⟩
  go_grown
def holdsB (c : Cls) (s : Sto) : Bool := inB s.wt c.we && inB s.he c.ro
set_option maxHeartbeats 1000000 in
theorem holds_any (c : Cls) (s : Sto) (w : World) :
    Calls Try.prog 15 #[c.val, s.val] w fun e w' => e = .returned (.bool (holdsB c s)) ∧ Below w.heap.size w w' := by
  go_enter Try.func15, Try.ntmps15
  go_wp2
  all_goals go_ret
  all_goals refine ⟨ret_bool ?_, by go_grown⟩
  all_goals simp [holdsB, inB]
  all_goals first | omega | (rw [Bool.eq_iff_iff]; simp; omega)
def rangesB (d t : Int) : Bool := inB d 4194304 && lenB t
set_option maxHeartbeats 1000000 in
theorem ranges_any (d t : Int) (w : World) :
    Calls Try.prog 17 #[.int .i64 d, .int .i64 t] w fun e w' => e = .returned (.bool (rangesB d t)) ∧ w = w' := by
  go_enter Try.func17, Try.ntmps17
  go_wp2
  all_goals go_ret
  all_goals refine ⟨ret_bool ?_, rfl⟩
  all_goals simp [rangesB, inB, lenB]
  all_goals first | omega | (rw [Bool.eq_iff_iff]; simp; omega)
set_option maxHeartbeats 1000000 in
theorem least_any (a b : Int) (w : World) :
    Calls Try.prog 52 #[.int .i64 a, .int .i64 b] w fun e w' => e = .returned (.int .i64 (min a b)) ∧ w = w' := by
  by_cases h : a < b
  all_goals
    have hm := hide (show min a b = if a < b then a else b by split <;> omega)
    go_enter Try.func52, Try.ntmps52
    go_wp2
    go_ret
    refine ⟨ret_int ?_, rfl⟩
    rw [hm.out]; split <;> omega
set_option maxHeartbeats 1000000 in
theorem less_any (n m d : Int) (w : World) (hn : 0 ≤ n) (hn' : n ≤ 1000000000000000) (hm : 0 ≤ m) (hm' : m ≤ 1000000000000000) (hd : 0 < d) (hd' : d ≤ 1000000000000000) :
    Calls Try.prog 42 #[.int .i64 n, .int .i64 m, .int .i64 d] w fun e w' => e = .returned (.int .i64 (lessI n m d)) ∧ w = w' := by
  have h0 := ceilI_bd (n := m) (m := d) hm hd
  unfold ceilI at h0
  have h1 : (m + d - 1) / d ≤ m + d - 1 := Int.ediv_le_self _ (by omega)
  have hq := hide (show lessI n m d = if n < (m + d - 1) / d then 0 else n - (m + d - 1) / d by unfold lessI; split <;> omega)
  by_cases h : n < (m + d - 1) / d
  all_goals
    go_enter Try.func42, Try.ntmps42
    go_wp2
    go_ret
    refine ⟨ret_int ?_, rfl⟩
    rw [hq.out]; split <;> omega
theorem wrap_run' {a b k : Int} (ha : 0 ≤ a) (ha' : a ≤ 4194304) (hb : 0 ≤ b) (hb' : b ≤ 4194304) (hk : 0 ≤ k) (hk' : k ≤ 1000) :
    IntKind.i64.wrap (IntKind.i64.wrap (a * k) + IntKind.i64.wrap (b * IntKind.i64.wrap (1000 - k))) = a * k + b * (1000 - k) := by
  have h1 : 0 ≤ a * k := Int.mul_nonneg ha hk
  have h2 : a * k ≤ 4194304 * 1000 := Int.mul_le_mul ha' hk' hk (by omega)
  have h3 : 0 ≤ b * (1000 - k) := Int.mul_nonneg hb (by omega)
  have h4 : b * (1000 - k) ≤ 4194304 * 1000 := Int.mul_le_mul hb' (by omega) (by omega) (by omega)
  rw [IntWalk.i64_in (1000 - k) (by omega), IntWalk.i64_in (a * k) (by omega), IntWalk.i64_in (b * (1000 - k)) (by omega), IntWalk.i64_in _ (by omega)]
def rainS (c : Cls) (s : Sto) (d : Int) : Sto := ⟨s.wt + wetBy c s d, s.he + heldBy c s d⟩
set_option maxHeartbeats 2000000 in
theorem rrain_any (c : Cls) (s : Sto) (d : Int) (w : World) (hr : RightP c) (h : HoldsP c s) (hd : 0 ≤ d) (hd' : d ≤ 4194304) :
    Calls Try.prog 41 #[c.val, s.val, .int .i64 d] w
      fun e w' => e = .returned (.tuple #[(rainS c s d).val, .int .i64 (runoff c s d)]) ∧ Below w.heap.size w w' := by
  obtain ⟨⟨r1, r2⟩, ⟨r3, r4⟩, ⟨r5, r6⟩, r7, r8⟩ := hr.cut
  have k1 := wetBy_bd h hd
  have k2 := heldBy_bd h hd
  obtain ⟨p1, p2, p3, p4⟩ := h
  have D : Hid (wetBy c s d = min d (c.we - s.wt) ∧ heldBy c s d = min (d - wetBy c s d) (c.ro - s.he)) := ⟨rfl, rfl⟩
  have X := (((Own.start w).alloc #[.string c.nm, .int .i64 c.se, .int .i64 c.we, .int .i64 c.ro, .int .i64 c.dr] 23).alloc #[.int .i64 s.wt, .int .i64 s.he] 25).alloc #[.int .i64 0, .int .i64 0] 25
  simp only [World.size_alloc] at X
  go_enter Try.func41, Try.ntmps41
  go_wp2_with fail
  refine (least_any _ _ _).mono ?_
  rintro e w1 ⟨rfl, rfl⟩
  rw [← D.out.1]
  go_wp2_with fail
  refine (least_any _ _ _).mono ?_
  rintro e w1 ⟨rfl, rfl⟩
  rw [← D.out.2]
  go_wp2_with fail
  have hr3 := X.r3
  have HX := hide X
  generalize ((w.alloc (.cells #[.string c.nm, .int .i64 c.se, .int .i64 c.we, .int .i64 c.ro, .int .i64 c.dr] 23)).alloc (.cells #[.int .i64 s.wt, .int .i64 s.he] 25)).alloc (.cells #[.int .i64 0, .int .i64 0] 25) = W at *
  have hneq0 : w.heap.size ≠ w.heap.size + 1 + 1 := by omega
  have hneq1 : w.heap.size + 1 + 1 ≠ w.heap.size := by omega
  clear X
  have q1 : 0 ≤ (d - wetBy c s d) * c.se := Int.mul_nonneg (by omega) (by omega)
  have q2 : (d - wetBy c s d) * c.se ≤ 4194304 * 1000 := Int.mul_le_mul (by omega) (by omega) (by omega) (by omega)
  have q3 : 0 ≤ (d - wetBy c s d - heldBy c s d) * (1000 - c.se) := Int.mul_nonneg (by omega) (by omega)
  have q4 : (d - wetBy c s d - heldBy c s d) * (1000 - c.se) ≤ 4194304 * 1000 := Int.mul_le_mul (by omega) (by omega) (by omega) (by omega)
  have z1 := IntWalk.i64_in (s.wt + wetBy c s d) (by omega)
  have z2 := IntWalk.i64_in (s.he + heldBy c s d) (by omega)
  have z3 := IntWalk.i64_in (1000 - c.se) (by omega)
  have z4 := IntWalk.i64_in (d - wetBy c s d - heldBy c s d) (by omega)
  have z5 := IntWalk.i64_in ((d - wetBy c s d) * c.se) (by omega)
  have z6 := IntWalk.i64_in ((d - wetBy c s d - heldBy c s d) * (1000 - c.se)) (by omega)
  have z7 := IntWalk.i64_in ((d - wetBy c s d) * c.se + (d - wetBy c s d - heldBy c s d) * (1000 - c.se)) (by omega)
  go_region_held3 (fun w' => w'.cell? ⟨w.heap.size, 1, none⟩ = some (.int .i64 c.se) ∧ w'.cell? ⟨w.heap.size + 1, 0, none⟩ = some (.int .i64 s.wt) ∧ w'.cell? ⟨w.heap.size + 1, 1, none⟩ = some (.int .i64 s.he)) (go_keep) (fail)
  go_wp2
  have he := HX.out.r3.1.1
  refine bodyPost_ret (v := .tuple #[.agg #[.int .i64 (s.wt + wetBy c s d), .int .i64 (s.he + heldBy c s d)], .int .i64 ((d - wetBy c s d) * c.se + (d - wetBy c s d - heldBy c s d) * (1000 - c.se))])
    (by simp [results, Try.results41, he, go_sem]) rfl ⟨rfl, ?_⟩
  exact (below_set (below_set HX.out.1 (b := w.heap.size + 1 + 1) (o := 0) (by omega) _) (b := w.heap.size + 1 + 1) (o := 1) (by omega) _).drew
set_option maxHeartbeats 2000000 in
theorem rstep_any (c : Cls) (s : Sto) (d t : Int) (w : World) (hr : RightP c) (h : HoldsP c s) (hd : 0 ≤ d) (hd' : d ≤ 4194304) (ht : 0 ≤ t) (ht' : t ≤ 86400) :
    Calls Try.prog 18 #[c.val, s.val, .int .i64 d, .int .i64 t] w
      fun e w' => e = .returned (.tuple #[(stepS c s d t).val, .int .i64 (runoff c s d)]) ∧ Below w.heap.size w w' := by
  obtain ⟨⟨r1, r2⟩, ⟨r3, r4⟩, ⟨r5, r6⟩, r7, r8⟩ := hr.cut
  have S := step_parts (t := t) h hd
  have S0 := hide (And.intro S.2.2.2.2.1 S.2.2.2.2.2)
  obtain ⟨s1, s2, s3, s4, _⟩ := S
  have E : Hid ((rainS c s d).wt = s.wt + wetBy c s d ∧ (rainS c s d).he = s.he + heldBy c s d) := ⟨rfl, rfl⟩
  have e1 : 0 ≤ (rainS c s d).wt := s1
  have e2 : (rainS c s d).wt ≤ c.we := s2
  have e3 : 0 ≤ (rainS c s d).he := s3
  have e4 : (rainS c s d).he ≤ c.ro := s4
  clear s1 s2 s3 s4
  have m := mul3_bd (a := (rainS c s d).he) (b := c.dr) (t := t) e3 (by omega) r7 r8 ht ht'
  have m5 : 0 ≤ c.we * t := Int.mul_nonneg r3 ht
  have m6 : c.we * t ≤ 100000 * 86400 := Int.mul_le_mul r4 ht' ht (by omega)
  obtain ⟨m1, m2, m3, m4⟩ := m
  have z1 := IntWalk.wrap64_in ((rainS c s d).he * c.dr) (by omega)
  have z2 := IntWalk.wrap64_in ((rainS c s d).he * c.dr * t) (by omega)
  have z4 := IntWalk.wrap64_in (c.we * t) (by omega)
  have X := (((Own.start w).alloc #[.string c.nm, .int .i64 c.se, .int .i64 c.we, .int .i64 c.ro, .int .i64 c.dr] 23).alloc #[.int .i64 s.wt, .int .i64 s.he] 25).alloc #[.int .i64 0, .int .i64 0] 25
  simp only [World.size_alloc] at X
  have HH := hide (And.intro hr h)
  clear hr h
  have q : d = 0 ∨ ¬ d = 0 := by omega
  rcases q with q | q
  · subst q
    go_enter Try.func18, Try.ntmps18
    go_wp2_with fail
    refine (rrain_any c s 0 _ HH.out.1 HH.out.2 hd hd').mono ?_
    rintro e w1 ⟨rfl, hb⟩
    replace X := X.to hb
    clear hb
    have hr3 := X.r3
    go_wp2_with fail
    refine (less_any _ _ _ _ e3 (by omega) m3 (by omega) (by omega) (by omega)).mono ?_
    rintro e w' ⟨rfl, rfl⟩
    go_wp2_with fail
    refine (less_any _ _ _ _ e1 (by omega) m5 (by omega) (by omega) (by omega)).mono ?_
    rintro e w' ⟨rfl, rfl⟩
    go_wp2
    refine bodyPost_ret (v := .tuple #[.agg #[.int .i64 (lessI (rainS c s 0).wt (c.we * t) 86400), .int .i64 (lessI (rainS c s 0).he ((rainS c s 0).he * c.dr * t) 3600000)], .int .i64 (runoff c s 0)])
      (by simp [results, Try.results18, hr3, go_sem]) rfl ⟨?_, ?_⟩
    · rw [S0.out.1 trivial, E.out.1, E.out.2]
    · have HX := X.1
      have hz := HX.size
      go_grown
  · have hd0 : (d == 0) = false := by simpa using q
    go_enter Try.func18, Try.ntmps18
    go_wp2_with fail
    refine (rrain_any c s d _ HH.out.1 HH.out.2 hd hd').mono ?_
    rintro e w1 ⟨rfl, hb⟩
    replace X := X.to hb
    clear hb
    have hr3 := X.r3
    go_wp2_with fail
    refine (less_any _ _ _ _ e3 (by omega) m3 (by omega) (by omega) (by omega)).mono ?_
    rintro e w' ⟨rfl, rfl⟩
    go_wp2
    refine bodyPost_ret (v := .tuple #[.agg #[.int .i64 (rainS c s d).wt, .int .i64 (lessI (rainS c s d).he ((rainS c s d).he * c.dr * t) 3600000)], .int .i64 (runoff c s d)])
      (by simp [results, Try.results18, hr3, go_sem]) rfl ⟨?_, ?_⟩
    · rw [S0.out.2 q, E.out.1, E.out.2]
    · have HX := X.1
      have hz := HX.size
      go_grown
theorem step_bd {c : Cls} {s : Sto} {t : Int} (hr : RightP c) (h : HoldsP c s) (ht : 1 ≤ t) (ht' : t ≤ 86400) :
    0 ≤ (stepS c s 0 t).wt ∧ (stepS c s 0 t).wt ≤ s.wt ∧ 0 ≤ (stepS c s 0 t).he ∧ (stepS c s 0 t).he ≤ s.he := by
  have h1 := step_holds (t := t) hr h (Int.le_refl 0) (by omega) ht'
  have h2 := step_le hr h ht ht'
  unfold HoldsP at h1
  omega
set_option maxHeartbeats 2000000 in
theorem rdrained_any (c : Cls) (s : Sto) (t : Int) (w : World) (hr : RightP c) (h : HoldsP c s) (ht : 1 ≤ t) (ht' : t ≤ 86400) :
    Calls Try.prog 19 #[c.val, s.val, .int .i64 t] w
      fun e w' => e = .returned (.tuple #[(stepS c s 0 t).val, .int .i64 ((s.he - (stepS c s 0 t).he) * (1000 - c.se) + (s.wt - (stepS c s 0 t).wt) * 1000)]) ∧ Below w.heap.size w w' := by
  obtain ⟨⟨r1, r2⟩, ⟨r3, r4⟩, ⟨r5, r6⟩, r7, r8⟩ := hr.cut
  obtain ⟨b1, b2, b3, b4⟩ := step_bd hr h ht ht'
  have HH := hide (And.intro hr h)
  obtain ⟨p1, p2, p3, p4⟩ := h
  clear hr
  have X := (((Own.start w).alloc #[.string c.nm, .int .i64 c.se, .int .i64 c.we, .int .i64 c.ro, .int .i64 c.dr] 23).alloc #[.int .i64 s.wt, .int .i64 s.he] 25).alloc #[.int .i64 0, .int .i64 0] 25
  simp only [World.size_alloc] at X
  go_enter Try.func19, Try.ntmps19
  go_wp2_with fail
  refine (rstep_any c s 0 t _ HH.out.1 HH.out.2 (Int.le_refl 0) (by omega) (by omega) ht').mono ?_
  rintro e w1 ⟨rfl, hb⟩
  replace X := X.to hb
  have hsz := X.r3.1.2.2
  replace X := X.alloc #[.int .i64 (stepS c s 0 t).wt, .int .i64 (stepS c s 0 t).he] 25
  clear hb
  go_wp2_with fail
  have hr4 := X.r4
  have HX := hide X
  generalize w1.alloc (.cells #[.int .i64 (stepS c s 0 t).wt, .int .i64 (stepS c s 0 t).he] 25) = W at *
  have hneq : w.heap.size + 1 + 1 ≠ w1.heap.size := by omega
  have hneq0 : w.heap.size ≠ w.heap.size + 1 + 1 := by omega
  have hneq1 : w.heap.size + 1 + 1 ≠ w.heap.size := by omega
  clear X
  have g1 : 0 ≤ (s.he - (stepS c s 0 t).he) * (1000 - c.se) := Int.mul_nonneg (by omega) (by omega)
  have g2 : (s.he - (stepS c s 0 t).he) * (1000 - c.se) ≤ 1000000 * 1000 := Int.mul_le_mul (by omega) (by omega) (by omega) (by omega)
  have z1 := IntWalk.i64_in (s.he - (stepS c s 0 t).he) (by omega)
  have z2 := IntWalk.i64_in (1000 - c.se) (by omega)
  have z3 := IntWalk.i64_in ((s.he - (stepS c s 0 t).he) * (1000 - c.se)) (by omega)
  have z4 := IntWalk.i64_in (s.wt - (stepS c s 0 t).wt) (by omega)
  have z5 := IntWalk.i64_in ((s.wt - (stepS c s 0 t).wt) * 1000) (by omega)
  have z6 := IntWalk.i64_in ((s.he - (stepS c s 0 t).he) * (1000 - c.se) + (s.wt - (stepS c s 0 t).wt) * 1000) (by omega)
  go_region_held3 (fun w' => w'.cell? ⟨w.heap.size, 1, none⟩ = some (.int .i64 c.se) ∧ w'.cell? ⟨w.heap.size + 1, 0, none⟩ = some (.int .i64 s.wt) ∧ w'.cell? ⟨w.heap.size + 1, 1, none⟩ = some (.int .i64 s.he) ∧ w'.cell? ⟨w1.heap.size, 0, none⟩ = some (.int .i64 (stepS c s 0 t).wt) ∧ w'.cell? ⟨w1.heap.size, 1, none⟩ = some (.int .i64 (stepS c s 0 t).he)) (go_keep) (fail)
  go_wp2
  refine bodyPost_ret (v := .tuple #[(stepS c s 0 t).val, .int .i64 ((s.he - (stepS c s 0 t).he) * (1000 - c.se) + (s.wt - (stepS c s 0 t).wt) * 1000)]) (by simp [results, Try.results19, hr4, go_sem]) rfl ⟨rfl, ?_⟩
  exact (below_set (below_set HX.out.1 (b := w.heap.size + 1 + 1) (o := 0) (by omega) _) (b := w.heap.size + 1 + 1) (o := 1) (by omega) _).drew
end Go.Proofs.Ytljaibbmceknfaa
