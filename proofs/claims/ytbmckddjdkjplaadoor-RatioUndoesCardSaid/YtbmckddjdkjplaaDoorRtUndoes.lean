/- RatioUndoes: differences undo sums, quotients products; floors and ceilings enclose a fraction: for all fractions the law returns true. -/
import Derived.Test.YtbmckddjdkjplaaDoorRtAwake
namespace Go.Proofs.YtbmckddjdkjplaaDoor
open Go Go.RowKit

theorem calls_ie {f : FuncId} {args : Array Value} {w : World} {n er n' er' : Int} (h : Calls Tryd.prog f args w (RetIE n er w)) (h1 : n = n') (h2 : er = er') : Calls Tryd.prog f args w (RetIE n' er' w) := by rw [← h1, ← h2]; exact h
theorem calls_fe {f : FuncId} {args : Array Value} {w : World} {s s' : Fr} {er er' : Int} (h : Calls Tryd.prog f args w (RetFE s er w)) (h1 : s = s') (h2 : er = er') : Calls Tryd.prog f args w (RetFE s' er' w) := by rw [← h1, ← h2]; exact h
set_option maxRecDepth 100000 in
set_option maxHeartbeats 4000000 in
theorem undoes_law (a b : Fr) (w : World) (ht : PowTab w) : Calls Tryd.prog 9 #[a.val, b.val] w (RetB (.bool true) w) := by
  have X := ((Own.start w).alloc #[.int .i64 a.num, .int .i64 a.den] 24).alloc #[.int .i64 b.num, .int .i64 b.den] 24
  simp only [World.size_alloc] at X
  have HT := hide (ht.below (X.1))
  clear ht
  have V1 := rvalid_any a
  have V2 := rvalid_any b
  rcases Bool.eq_false_or_eq_true (vF a) with ha | ha
  rotate_left
  · rw [ha] at V1
    clear ha
    go_enter Tryd.func9, Tryd.ntmps9
    have hr := X.r2
    go_wp2_with fail
    refine (awake_any _ HT.out).mono ?_
    rintro e w1 ⟨rfl, hb⟩
    replace X := X.to hb
    clear hb hr
    have hr := X.r2
    go_wp2_with fail
    refine (V1 _).mono ?_
    rintro e w2 ⟨rfl, hb⟩
    replace X := X.to hb
    clear hb hr
    have hr := X.r2
    go_wp2
    go_ret
    exact ⟨rfl, by have HX := X.1; have hz := HX.size; go_grown⟩
  rcases Bool.eq_false_or_eq_true (vF b) with hb' | hb'
  rotate_left
  · rw [ha] at V1
    rw [hb'] at V2
    clear ha hb'
    go_enter Tryd.func9, Tryd.ntmps9
    have hr := X.r2
    go_wp2_with fail
    refine (awake_any _ HT.out).mono ?_
    rintro e w1 ⟨rfl, hb⟩
    replace X := X.to hb
    clear hb hr
    have hr := X.r2
    go_wp2_with fail
    refine (V1 _).mono ?_
    rintro e w2 ⟨rfl, hb⟩
    replace X := X.to hb
    clear hb hr
    have hr := X.r2
    go_wp2_with fail
    refine (V2 _).mono ?_
    rintro e w3 ⟨rfl, hb⟩
    replace X := X.to hb
    clear hb hr
    have hr := X.r2
    go_wp2
    go_ret
    exact ⟨rfl, by have HX := X.1; have hz := HX.size; go_grown⟩
  have A1 := fun W => add_any a b W
  have A2 := fun W => sub_any (addF a b) b W
  have A3 := fun W => mul_any a b W
  have A4 := fun W => div_any (mulF a b) b W
  have A5 := fun W => calls_ie (floor_any a W) (n' := flF a) (er' := 0) (ifV_yes ha _ _) (ifV_yes ha _ _)
  have A6 := fun W => calls_ie (ceil_any a W) (n' := ceF a) (er' := 0) (ifV_yes ha _ _) (ifV_yes ha _ _)
  have fs := fl_spec ha
  have cs := ce_spec ha
  have fc := floors ha
  have U1 : addE a b = 0 → subE (addF a b) b = 0 ∧ subF (addF a b) b = a := undo1
  have U2 : mulE a b = 0 → b.num ≠ 0 → divE (mulF a b) b = 0 ∧ divF (mulF a b) b = a := undo2
  obtain ⟨k1, k2, k3, k4⟩ := (vF_iff.1 ha).1
  rw [ha] at V1
  rw [hb'] at V2
  have p1 := prod_bd (M := 1073741824) (N := 1073741824) (x := flF a) (y := a.den) (by omega) (by omega) (by omega) (by omega) (by omega)
  have p2 := prod_bd (M := 1073741824) (N := 1073741824) (x := ceF a) (y := a.den) (by omega) (by omega) (by omega) (by omega) (by omega)
  have g1 : decide (flF a * a.den ≤ a.num) = true := decide_eq_true fs.1
  have g2 : decide (a.num ≤ ceF a * a.den) = true := decide_eq_true cs.1
  have g3 : decide (flF a < -1073741824) = false := decide_eq_false (by omega)
  have g4 : decide (1073741824 < ceF a) = false := decide_eq_false (by omega)
  have q0 : flF a * a.den ≤ 1152921504606846976 ∧ -1152921504606846976 ≤ flF a * a.den := by omega
  have q1 : ceF a * a.den ≤ 1152921504606846976 ∧ -1152921504606846976 ≤ ceF a * a.den := by omega
  obtain ⟨q2, q3⟩ := q0
  obtain ⟨q4, q5⟩ := q1
  have fb : -1073741824 ≤ flF a ∧ flF a ≤ 1073741824 := by omega
  obtain ⟨fb1, fb2⟩ := fb
  have FC : ((flF a == ceF a) = true ∧ (a.den == 1) = true) ∨ ((flF a == ceF a) = false ∧ (flF a + 1 == ceF a) = true ∧ decide (1 < a.den) = true) := by
    rcases fc with ⟨h1, h2⟩ | ⟨h1, h2⟩
    · exact .inl ⟨by simpa using h1, by simpa using h2⟩
    · exact .inr ⟨by simp; omega, by simpa using h1, by simpa using h2⟩
  clear ha hb' fs cs fc p1 p2 k1 k2 k3 k4
  generalize hP : flF a * a.den = P at *
  generalize hR : ceF a * a.den = R at *
  generalize flF a = f at *
  generalize ceF a = c at *
  generalize addF a b = s at *
  generalize addE a b = es at *
  generalize mulF a b = m at *
  generalize mulE a b = em at *
  generalize subF s b = s' at *
  generalize subE s b = es' at *
  generalize divF m b = m' at *
  generalize divE m b = em' at *
  have D1 : ((es == 0) = true ∧ es' = 0 ∧ s' = a) ∨ (es == 0) = false := by
    by_cases h : es = 0
    · exact .inl ⟨by simpa using h, U1 h⟩
    · exact .inr (by simpa using h)
  have D2 : ((em == 0) = true ∧ (b.num == 0) = false ∧ (b.num != 0) = true ∧ em' = 0 ∧ m' = a) ∨ ((em == 0) = true ∧ (b.num == 0) = true ∧ (b.num != 0) = false) ∨ (em == 0) = false := by
    by_cases h : em = 0
    · by_cases h' : b.num = 0
      · exact .inr (.inl ⟨by simpa using h, by simpa using h', by simpa using h'⟩)
      · exact .inl ⟨by simpa using h, by simpa using h', by simpa using h', U2 h h'⟩
    · exact .inr (.inr (by simpa using h))
  clear U1 U2
  rcases D1 with ⟨d1, r1, r2⟩ | d1 <;> rcases D2 with ⟨d2, d3, d4, r3, r4⟩ | ⟨d2, d3, d4⟩ | d2 <;> rcases FC with ⟨f1, f2⟩ | ⟨f1, f2, f3⟩
  · rw [r1, r2] at A2; rw [r3, r4] at A4; skip
    go_enter Tryd.func9, Tryd.ntmps9
    have hr := X.r2
    go_wp2_with fail
    refine (awake_any _ HT.out).mono ?_
    rintro e w1 ⟨rfl, hb⟩
    replace X := X.to hb
    clear hb hr
    have hr := X.r2
    go_wp2_with fail
    refine (V1 _).mono ?_
    rintro e w2 ⟨rfl, hb⟩
    replace X := X.to hb
    clear hb hr
    have hr := X.r2
    go_wp2_with fail
    refine (V2 _).mono ?_
    rintro e w3 ⟨rfl, hb⟩
    replace X := X.to hb
    clear hb hr
    have hr := X.r2
    go_wp2_with fail
    refine (A1 _).mono ?_
    rintro e w4 ⟨rfl, hb⟩
    replace X := (X.to hb).alloc #[.int .i64 s.num, .int .i64 s.den] 24
    clear hb hr
    have hr := X.r3
    go_wp2_with fail
    refine (A2 _).mono ?_
    rintro e w5 ⟨rfl, hb⟩
    replace X := (X.to hb).alloc #[.int .i64 a.num, .int .i64 a.den] 24
    clear hb hr
    have hr := X.r4
    go_wp2_with fail
    refine (A3 _).mono ?_
    rintro e w6 ⟨rfl, hb⟩
    replace X := (X.to hb).alloc #[.int .i64 m.num, .int .i64 m.den] 24
    clear hb hr
    have hr := X.r5
    go_wp2_with fail
    refine (A4 _).mono ?_
    rintro e w7 ⟨rfl, hb⟩
    replace X := (X.to hb).alloc #[.int .i64 a.num, .int .i64 a.den] 24
    clear hb hr
    have hr := X.r6
    go_wp2_with fail
    refine (A5 _).mono ?_
    rintro e w8 ⟨rfl, hb⟩
    replace X := X.to hb
    clear hb hr
    have hr := X.r6
    go_wp2_with fail
    refine (A6 _).mono ?_
    rintro e w9 ⟨rfl, hb⟩
    replace X := X.to hb
    clear hb hr
    have hr := X.r6
    go_wp2
    go_ret
    exact ⟨rfl, by have HX := X.1; have hz := HX.size; go_grown⟩
  · rw [r1, r2] at A2; rw [r3, r4] at A4; skip
    go_enter Tryd.func9, Tryd.ntmps9
    have hr := X.r2
    go_wp2_with fail
    refine (awake_any _ HT.out).mono ?_
    rintro e w1 ⟨rfl, hb⟩
    replace X := X.to hb
    clear hb hr
    have hr := X.r2
    go_wp2_with fail
    refine (V1 _).mono ?_
    rintro e w2 ⟨rfl, hb⟩
    replace X := X.to hb
    clear hb hr
    have hr := X.r2
    go_wp2_with fail
    refine (V2 _).mono ?_
    rintro e w3 ⟨rfl, hb⟩
    replace X := X.to hb
    clear hb hr
    have hr := X.r2
    go_wp2_with fail
    refine (A1 _).mono ?_
    rintro e w4 ⟨rfl, hb⟩
    replace X := (X.to hb).alloc #[.int .i64 s.num, .int .i64 s.den] 24
    clear hb hr
    have hr := X.r3
    go_wp2_with fail
    refine (A2 _).mono ?_
    rintro e w5 ⟨rfl, hb⟩
    replace X := (X.to hb).alloc #[.int .i64 a.num, .int .i64 a.den] 24
    clear hb hr
    have hr := X.r4
    go_wp2_with fail
    refine (A3 _).mono ?_
    rintro e w6 ⟨rfl, hb⟩
    replace X := (X.to hb).alloc #[.int .i64 m.num, .int .i64 m.den] 24
    clear hb hr
    have hr := X.r5
    go_wp2_with fail
    refine (A4 _).mono ?_
    rintro e w7 ⟨rfl, hb⟩
    replace X := (X.to hb).alloc #[.int .i64 a.num, .int .i64 a.den] 24
    clear hb hr
    have hr := X.r6
    go_wp2_with fail
    refine (A5 _).mono ?_
    rintro e w8 ⟨rfl, hb⟩
    replace X := X.to hb
    clear hb hr
    have hr := X.r6
    go_wp2_with fail
    refine (A6 _).mono ?_
    rintro e w9 ⟨rfl, hb⟩
    replace X := X.to hb
    clear hb hr
    have hr := X.r6
    go_wp2
    go_ret
    exact ⟨rfl, by have HX := X.1; have hz := HX.size; go_grown⟩
  · rw [r1, r2] at A2; skip
    go_enter Tryd.func9, Tryd.ntmps9
    have hr := X.r2
    go_wp2_with fail
    refine (awake_any _ HT.out).mono ?_
    rintro e w1 ⟨rfl, hb⟩
    replace X := X.to hb
    clear hb hr
    have hr := X.r2
    go_wp2_with fail
    refine (V1 _).mono ?_
    rintro e w2 ⟨rfl, hb⟩
    replace X := X.to hb
    clear hb hr
    have hr := X.r2
    go_wp2_with fail
    refine (V2 _).mono ?_
    rintro e w3 ⟨rfl, hb⟩
    replace X := X.to hb
    clear hb hr
    have hr := X.r2
    go_wp2_with fail
    refine (A1 _).mono ?_
    rintro e w4 ⟨rfl, hb⟩
    replace X := (X.to hb).alloc #[.int .i64 s.num, .int .i64 s.den] 24
    clear hb hr
    have hr := X.r3
    go_wp2_with fail
    refine (A2 _).mono ?_
    rintro e w5 ⟨rfl, hb⟩
    replace X := (X.to hb).alloc #[.int .i64 a.num, .int .i64 a.den] 24
    clear hb hr
    have hr := X.r4
    go_wp2_with fail
    refine (A3 _).mono ?_
    rintro e w6 ⟨rfl, hb⟩
    replace X := (X.to hb).alloc #[.int .i64 m.num, .int .i64 m.den] 24
    clear hb hr
    have hr := X.r5
    go_wp2_with fail
    refine (A5 _).mono ?_
    rintro e w7 ⟨rfl, hb⟩
    replace X := X.to hb
    clear hb hr
    have hr := X.r5
    go_wp2_with fail
    refine (A6 _).mono ?_
    rintro e w8 ⟨rfl, hb⟩
    replace X := X.to hb
    clear hb hr
    have hr := X.r5
    go_wp2
    go_ret
    exact ⟨rfl, by have HX := X.1; have hz := HX.size; go_grown⟩
  · rw [r1, r2] at A2; skip
    go_enter Tryd.func9, Tryd.ntmps9
    have hr := X.r2
    go_wp2_with fail
    refine (awake_any _ HT.out).mono ?_
    rintro e w1 ⟨rfl, hb⟩
    replace X := X.to hb
    clear hb hr
    have hr := X.r2
    go_wp2_with fail
    refine (V1 _).mono ?_
    rintro e w2 ⟨rfl, hb⟩
    replace X := X.to hb
    clear hb hr
    have hr := X.r2
    go_wp2_with fail
    refine (V2 _).mono ?_
    rintro e w3 ⟨rfl, hb⟩
    replace X := X.to hb
    clear hb hr
    have hr := X.r2
    go_wp2_with fail
    refine (A1 _).mono ?_
    rintro e w4 ⟨rfl, hb⟩
    replace X := (X.to hb).alloc #[.int .i64 s.num, .int .i64 s.den] 24
    clear hb hr
    have hr := X.r3
    go_wp2_with fail
    refine (A2 _).mono ?_
    rintro e w5 ⟨rfl, hb⟩
    replace X := (X.to hb).alloc #[.int .i64 a.num, .int .i64 a.den] 24
    clear hb hr
    have hr := X.r4
    go_wp2_with fail
    refine (A3 _).mono ?_
    rintro e w6 ⟨rfl, hb⟩
    replace X := (X.to hb).alloc #[.int .i64 m.num, .int .i64 m.den] 24
    clear hb hr
    have hr := X.r5
    go_wp2_with fail
    refine (A5 _).mono ?_
    rintro e w7 ⟨rfl, hb⟩
    replace X := X.to hb
    clear hb hr
    have hr := X.r5
    go_wp2_with fail
    refine (A6 _).mono ?_
    rintro e w8 ⟨rfl, hb⟩
    replace X := X.to hb
    clear hb hr
    have hr := X.r5
    go_wp2
    go_ret
    exact ⟨rfl, by have HX := X.1; have hz := HX.size; go_grown⟩
  · rw [r1, r2] at A2; skip
    go_enter Tryd.func9, Tryd.ntmps9
    have hr := X.r2
    go_wp2_with fail
    refine (awake_any _ HT.out).mono ?_
    rintro e w1 ⟨rfl, hb⟩
    replace X := X.to hb
    clear hb hr
    have hr := X.r2
    go_wp2_with fail
    refine (V1 _).mono ?_
    rintro e w2 ⟨rfl, hb⟩
    replace X := X.to hb
    clear hb hr
    have hr := X.r2
    go_wp2_with fail
    refine (V2 _).mono ?_
    rintro e w3 ⟨rfl, hb⟩
    replace X := X.to hb
    clear hb hr
    have hr := X.r2
    go_wp2_with fail
    refine (A1 _).mono ?_
    rintro e w4 ⟨rfl, hb⟩
    replace X := (X.to hb).alloc #[.int .i64 s.num, .int .i64 s.den] 24
    clear hb hr
    have hr := X.r3
    go_wp2_with fail
    refine (A2 _).mono ?_
    rintro e w5 ⟨rfl, hb⟩
    replace X := (X.to hb).alloc #[.int .i64 a.num, .int .i64 a.den] 24
    clear hb hr
    have hr := X.r4
    go_wp2_with fail
    refine (A3 _).mono ?_
    rintro e w6 ⟨rfl, hb⟩
    replace X := (X.to hb).alloc #[.int .i64 m.num, .int .i64 m.den] 24
    clear hb hr
    have hr := X.r5
    go_wp2_with fail
    refine (A5 _).mono ?_
    rintro e w7 ⟨rfl, hb⟩
    replace X := X.to hb
    clear hb hr
    have hr := X.r5
    go_wp2_with fail
    refine (A6 _).mono ?_
    rintro e w8 ⟨rfl, hb⟩
    replace X := X.to hb
    clear hb hr
    have hr := X.r5
    go_wp2
    go_ret
    exact ⟨rfl, by have HX := X.1; have hz := HX.size; go_grown⟩
  · rw [r1, r2] at A2; skip
    go_enter Tryd.func9, Tryd.ntmps9
    have hr := X.r2
    go_wp2_with fail
    refine (awake_any _ HT.out).mono ?_
    rintro e w1 ⟨rfl, hb⟩
    replace X := X.to hb
    clear hb hr
    have hr := X.r2
    go_wp2_with fail
    refine (V1 _).mono ?_
    rintro e w2 ⟨rfl, hb⟩
    replace X := X.to hb
    clear hb hr
    have hr := X.r2
    go_wp2_with fail
    refine (V2 _).mono ?_
    rintro e w3 ⟨rfl, hb⟩
    replace X := X.to hb
    clear hb hr
    have hr := X.r2
    go_wp2_with fail
    refine (A1 _).mono ?_
    rintro e w4 ⟨rfl, hb⟩
    replace X := (X.to hb).alloc #[.int .i64 s.num, .int .i64 s.den] 24
    clear hb hr
    have hr := X.r3
    go_wp2_with fail
    refine (A2 _).mono ?_
    rintro e w5 ⟨rfl, hb⟩
    replace X := (X.to hb).alloc #[.int .i64 a.num, .int .i64 a.den] 24
    clear hb hr
    have hr := X.r4
    go_wp2_with fail
    refine (A3 _).mono ?_
    rintro e w6 ⟨rfl, hb⟩
    replace X := (X.to hb).alloc #[.int .i64 m.num, .int .i64 m.den] 24
    clear hb hr
    have hr := X.r5
    go_wp2_with fail
    refine (A5 _).mono ?_
    rintro e w7 ⟨rfl, hb⟩
    replace X := X.to hb
    clear hb hr
    have hr := X.r5
    go_wp2_with fail
    refine (A6 _).mono ?_
    rintro e w8 ⟨rfl, hb⟩
    replace X := X.to hb
    clear hb hr
    have hr := X.r5
    go_wp2
    go_ret
    exact ⟨rfl, by have HX := X.1; have hz := HX.size; go_grown⟩
  · rw [r3, r4] at A4; skip
    go_enter Tryd.func9, Tryd.ntmps9
    have hr := X.r2
    go_wp2_with fail
    refine (awake_any _ HT.out).mono ?_
    rintro e w1 ⟨rfl, hb⟩
    replace X := X.to hb
    clear hb hr
    have hr := X.r2
    go_wp2_with fail
    refine (V1 _).mono ?_
    rintro e w2 ⟨rfl, hb⟩
    replace X := X.to hb
    clear hb hr
    have hr := X.r2
    go_wp2_with fail
    refine (V2 _).mono ?_
    rintro e w3 ⟨rfl, hb⟩
    replace X := X.to hb
    clear hb hr
    have hr := X.r2
    go_wp2_with fail
    refine (A1 _).mono ?_
    rintro e w4 ⟨rfl, hb⟩
    replace X := (X.to hb).alloc #[.int .i64 s.num, .int .i64 s.den] 24
    clear hb hr
    have hr := X.r3
    go_wp2_with fail
    refine (A3 _).mono ?_
    rintro e w5 ⟨rfl, hb⟩
    replace X := (X.to hb).alloc #[.int .i64 m.num, .int .i64 m.den] 24
    clear hb hr
    have hr := X.r4
    go_wp2_with fail
    refine (A4 _).mono ?_
    rintro e w6 ⟨rfl, hb⟩
    replace X := (X.to hb).alloc #[.int .i64 a.num, .int .i64 a.den] 24
    clear hb hr
    have hr := X.r5
    go_wp2_with fail
    refine (A5 _).mono ?_
    rintro e w7 ⟨rfl, hb⟩
    replace X := X.to hb
    clear hb hr
    have hr := X.r5
    go_wp2_with fail
    refine (A6 _).mono ?_
    rintro e w8 ⟨rfl, hb⟩
    replace X := X.to hb
    clear hb hr
    have hr := X.r5
    go_wp2
    go_ret
    exact ⟨rfl, by have HX := X.1; have hz := HX.size; go_grown⟩
  · rw [r3, r4] at A4; skip
    go_enter Tryd.func9, Tryd.ntmps9
    have hr := X.r2
    go_wp2_with fail
    refine (awake_any _ HT.out).mono ?_
    rintro e w1 ⟨rfl, hb⟩
    replace X := X.to hb
    clear hb hr
    have hr := X.r2
    go_wp2_with fail
    refine (V1 _).mono ?_
    rintro e w2 ⟨rfl, hb⟩
    replace X := X.to hb
    clear hb hr
    have hr := X.r2
    go_wp2_with fail
    refine (V2 _).mono ?_
    rintro e w3 ⟨rfl, hb⟩
    replace X := X.to hb
    clear hb hr
    have hr := X.r2
    go_wp2_with fail
    refine (A1 _).mono ?_
    rintro e w4 ⟨rfl, hb⟩
    replace X := (X.to hb).alloc #[.int .i64 s.num, .int .i64 s.den] 24
    clear hb hr
    have hr := X.r3
    go_wp2_with fail
    refine (A3 _).mono ?_
    rintro e w5 ⟨rfl, hb⟩
    replace X := (X.to hb).alloc #[.int .i64 m.num, .int .i64 m.den] 24
    clear hb hr
    have hr := X.r4
    go_wp2_with fail
    refine (A4 _).mono ?_
    rintro e w6 ⟨rfl, hb⟩
    replace X := (X.to hb).alloc #[.int .i64 a.num, .int .i64 a.den] 24
    clear hb hr
    have hr := X.r5
    go_wp2_with fail
    refine (A5 _).mono ?_
    rintro e w7 ⟨rfl, hb⟩
    replace X := X.to hb
    clear hb hr
    have hr := X.r5
    go_wp2_with fail
    refine (A6 _).mono ?_
    rintro e w8 ⟨rfl, hb⟩
    replace X := X.to hb
    clear hb hr
    have hr := X.r5
    go_wp2
    go_ret
    exact ⟨rfl, by have HX := X.1; have hz := HX.size; go_grown⟩
  · skip
    go_enter Tryd.func9, Tryd.ntmps9
    have hr := X.r2
    go_wp2_with fail
    refine (awake_any _ HT.out).mono ?_
    rintro e w1 ⟨rfl, hb⟩
    replace X := X.to hb
    clear hb hr
    have hr := X.r2
    go_wp2_with fail
    refine (V1 _).mono ?_
    rintro e w2 ⟨rfl, hb⟩
    replace X := X.to hb
    clear hb hr
    have hr := X.r2
    go_wp2_with fail
    refine (V2 _).mono ?_
    rintro e w3 ⟨rfl, hb⟩
    replace X := X.to hb
    clear hb hr
    have hr := X.r2
    go_wp2_with fail
    refine (A1 _).mono ?_
    rintro e w4 ⟨rfl, hb⟩
    replace X := (X.to hb).alloc #[.int .i64 s.num, .int .i64 s.den] 24
    clear hb hr
    have hr := X.r3
    go_wp2_with fail
    refine (A3 _).mono ?_
    rintro e w5 ⟨rfl, hb⟩
    replace X := (X.to hb).alloc #[.int .i64 m.num, .int .i64 m.den] 24
    clear hb hr
    have hr := X.r4
    go_wp2_with fail
    refine (A5 _).mono ?_
    rintro e w6 ⟨rfl, hb⟩
    replace X := X.to hb
    clear hb hr
    have hr := X.r4
    go_wp2_with fail
    refine (A6 _).mono ?_
    rintro e w7 ⟨rfl, hb⟩
    replace X := X.to hb
    clear hb hr
    have hr := X.r4
    go_wp2
    go_ret
    exact ⟨rfl, by have HX := X.1; have hz := HX.size; go_grown⟩
  · skip
    go_enter Tryd.func9, Tryd.ntmps9
    have hr := X.r2
    go_wp2_with fail
    refine (awake_any _ HT.out).mono ?_
    rintro e w1 ⟨rfl, hb⟩
    replace X := X.to hb
    clear hb hr
    have hr := X.r2
    go_wp2_with fail
    refine (V1 _).mono ?_
    rintro e w2 ⟨rfl, hb⟩
    replace X := X.to hb
    clear hb hr
    have hr := X.r2
    go_wp2_with fail
    refine (V2 _).mono ?_
    rintro e w3 ⟨rfl, hb⟩
    replace X := X.to hb
    clear hb hr
    have hr := X.r2
    go_wp2_with fail
    refine (A1 _).mono ?_
    rintro e w4 ⟨rfl, hb⟩
    replace X := (X.to hb).alloc #[.int .i64 s.num, .int .i64 s.den] 24
    clear hb hr
    have hr := X.r3
    go_wp2_with fail
    refine (A3 _).mono ?_
    rintro e w5 ⟨rfl, hb⟩
    replace X := (X.to hb).alloc #[.int .i64 m.num, .int .i64 m.den] 24
    clear hb hr
    have hr := X.r4
    go_wp2_with fail
    refine (A5 _).mono ?_
    rintro e w6 ⟨rfl, hb⟩
    replace X := X.to hb
    clear hb hr
    have hr := X.r4
    go_wp2_with fail
    refine (A6 _).mono ?_
    rintro e w7 ⟨rfl, hb⟩
    replace X := X.to hb
    clear hb hr
    have hr := X.r4
    go_wp2
    go_ret
    exact ⟨rfl, by have HX := X.1; have hz := HX.size; go_grown⟩
  · skip
    go_enter Tryd.func9, Tryd.ntmps9
    have hr := X.r2
    go_wp2_with fail
    refine (awake_any _ HT.out).mono ?_
    rintro e w1 ⟨rfl, hb⟩
    replace X := X.to hb
    clear hb hr
    have hr := X.r2
    go_wp2_with fail
    refine (V1 _).mono ?_
    rintro e w2 ⟨rfl, hb⟩
    replace X := X.to hb
    clear hb hr
    have hr := X.r2
    go_wp2_with fail
    refine (V2 _).mono ?_
    rintro e w3 ⟨rfl, hb⟩
    replace X := X.to hb
    clear hb hr
    have hr := X.r2
    go_wp2_with fail
    refine (A1 _).mono ?_
    rintro e w4 ⟨rfl, hb⟩
    replace X := (X.to hb).alloc #[.int .i64 s.num, .int .i64 s.den] 24
    clear hb hr
    have hr := X.r3
    go_wp2_with fail
    refine (A3 _).mono ?_
    rintro e w5 ⟨rfl, hb⟩
    replace X := (X.to hb).alloc #[.int .i64 m.num, .int .i64 m.den] 24
    clear hb hr
    have hr := X.r4
    go_wp2_with fail
    refine (A5 _).mono ?_
    rintro e w6 ⟨rfl, hb⟩
    replace X := X.to hb
    clear hb hr
    have hr := X.r4
    go_wp2_with fail
    refine (A6 _).mono ?_
    rintro e w7 ⟨rfl, hb⟩
    replace X := X.to hb
    clear hb hr
    have hr := X.r4
    go_wp2
    go_ret
    exact ⟨rfl, by have HX := X.1; have hz := HX.size; go_grown⟩
  · skip
    go_enter Tryd.func9, Tryd.ntmps9
    have hr := X.r2
    go_wp2_with fail
    refine (awake_any _ HT.out).mono ?_
    rintro e w1 ⟨rfl, hb⟩
    replace X := X.to hb
    clear hb hr
    have hr := X.r2
    go_wp2_with fail
    refine (V1 _).mono ?_
    rintro e w2 ⟨rfl, hb⟩
    replace X := X.to hb
    clear hb hr
    have hr := X.r2
    go_wp2_with fail
    refine (V2 _).mono ?_
    rintro e w3 ⟨rfl, hb⟩
    replace X := X.to hb
    clear hb hr
    have hr := X.r2
    go_wp2_with fail
    refine (A1 _).mono ?_
    rintro e w4 ⟨rfl, hb⟩
    replace X := (X.to hb).alloc #[.int .i64 s.num, .int .i64 s.den] 24
    clear hb hr
    have hr := X.r3
    go_wp2_with fail
    refine (A3 _).mono ?_
    rintro e w5 ⟨rfl, hb⟩
    replace X := (X.to hb).alloc #[.int .i64 m.num, .int .i64 m.den] 24
    clear hb hr
    have hr := X.r4
    go_wp2_with fail
    refine (A5 _).mono ?_
    rintro e w6 ⟨rfl, hb⟩
    replace X := X.to hb
    clear hb hr
    have hr := X.r4
    go_wp2_with fail
    refine (A6 _).mono ?_
    rintro e w7 ⟨rfl, hb⟩
    replace X := X.to hb
    clear hb hr
    have hr := X.r4
    go_wp2
    go_ret
    exact ⟨rfl, by have HX := X.1; have hz := HX.size; go_grown⟩
end Go.Proofs.YtbmckddjdkjplaaDoor
