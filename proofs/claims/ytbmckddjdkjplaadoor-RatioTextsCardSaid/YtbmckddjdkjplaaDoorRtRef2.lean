/- The reference's fractions: Valid, Neg, Add, Sub, Mul, Div, Cmp, Floor, Ceil: what each returns; nothing that was there is turned. -/
import Derived.Test.YtbmckddjdkjplaaDoorRtRef
import Derived.Test.YtbmckddjdkjplaaDoorRtCmp
namespace Go.Proofs.YtbmckddjdkjplaaDoor
open Go.RowKit

theorem fr_ne {s t : Fr} (h : ¬ s = t) : (s.num == t.num) = false ∨ ((s.num == t.num) = true ∧ (s.den == t.den) = false) := by
  by_cases h1 : s.num = t.num
  · by_cases h2 : s.den = t.den
    · exact absurd (fr_eq h1 h2) h
    · exact .inr ⟨by simpa using h1, by simpa using h2⟩
  · exact .inl (by simpa using h1)
theorem inF4 {a : Fr} (h : ¬ inF a) : decide (a.num < -1073741824) = true ∨ (decide (a.num < -1073741824) = false ∧ decide (1073741824 < a.num) = true) ∨
    (decide (a.num < -1073741824) = false ∧ decide (1073741824 < a.num) = false ∧ decide (a.den < 1) = true) ∨ (decide (a.num < -1073741824) = false ∧ decide (1073741824 < a.num) = false ∧ decide (a.den < 1) = false ∧ decide (1073741824 < a.den) = true) := by
  unfold inF at h
  simp only [decide_eq_true_eq, decide_eq_false_iff_not]
  omega
set_option maxRecDepth 100000 in
set_option maxHeartbeats 1000000 in
theorem refv_any (a : Fr) (w : World) : Calls Tryd.prog 17 #[a.val] w (RetB (.bool (vF a)) w) := by
  have X := (Own.start w).alloc #[.int .i64 a.num, .int .i64 a.den] 24
  have hr := X.r1
  by_cases h : inF a
  · obtain ⟨k1, k2, k3, k4⟩ := h
    have C := fun w => rmake_any a.num a.den w (by omega) (by omega) (by omega) (by omega)
    have hv := vF_ref ⟨k1, k2, k3, k4⟩
    have d1 : decide (a.num < -1073741824) = false := decide_eq_false (by omega)
    have d2 : decide (1073741824 < a.num) = false := decide_eq_false (by omega)
    have d3 : decide (a.den < 1) = false := decide_eq_false (by omega)
    have d4 : decide (1073741824 < a.den) = false := decide_eq_false (by omega)
    clear k1 k2 k3 k4
    generalize mkF a.num a.den = b at *
    generalize mkE a.num a.den = er at *
    by_cases hba : b = a
    · rw [decide_eq_true hba] at hv
      rw [hv]
      have e1 : (b.num == a.num) = true := by rw [hba]; simp
      have e2 : (b.den == a.den) = true := by rw [hba]; simp
      clear hv hba
      go_enter Tryd.func17, Tryd.ntmps17
      go_wp2_with fail
      refine (C _).mono ?_
      rintro e w1 ⟨rfl, hb⟩
      replace X := (X.to hb).alloc #[.int .i64 b.num, .int .i64 b.den] 24
      clear hb hr
      have hr := X.r2
      go_wp2
      go_ret
      exact ⟨rfl, X.1⟩
    · rw [decide_eq_false hba] at hv
      rw [hv]
      have hn := fr_ne hba
      clear hv hba
      rcases hn with e1 | ⟨e1, e2⟩
      all_goals
        go_enter Tryd.func17, Tryd.ntmps17
        go_wp2_with fail
        refine (C _).mono ?_
        rintro e w1 ⟨rfl, hb⟩
        replace X := (X.to hb).alloc #[.int .i64 b.num, .int .i64 b.den] 24
        clear hb hr
        have hr := X.r2
        go_wp2
        go_ret
        exact ⟨rfl, X.1⟩
  · have hv : vF a = false := by simp [vF, h]
    rw [hv]
    have hn := inF4 h
    clear hv h
    rcases hn with d1 | ⟨d1, d2⟩ | ⟨d1, d2, d3⟩ | ⟨d1, d2, d3, d4⟩
    all_goals
      go_enter Tryd.func17, Tryd.ntmps17
      go_wp2
      go_ret
      exact ⟨rfl, X.1⟩
set_option maxHeartbeats 1000000 in
theorem neg_any (a : Fr) (w : World) (ha : vF a = true) : Calls Tryd.prog 49 #[a.val] w (RetB (negF a).val w) := by
  have X := ((Own.start w).alloc #[.int .i64 a.num, .int .i64 a.den] 24).alloc #[.int .i64 0, .int .i64 0] 24
  simp only [World.size_alloc] at X
  have hr := X.r2
  obtain ⟨⟨k1, k2, k3, k4⟩, _⟩ := vF_iff.1 ha
  clear ha
  go_enter Tryd.func49, Tryd.ntmps49
  go_wp2
  exact bodyPost_ret (v := (negF a).val) (by simp [results, Tryd.results49, negF, go_sem]) rfl ⟨rfl, by have HX := X.1; have hz := HX.size; go_grown⟩
set_option maxRecDepth 100000 in
set_option maxHeartbeats 1000000 in
theorem radd_any (a b : Fr) (w : World) : Calls Tryd.prog 33 #[a.val, b.val] w (RetFE (addF a b) (addE a b) w) := by
  have X := (((Own.start w).alloc #[.int .i64 a.num, .int .i64 a.den] 24).alloc #[.int .i64 b.num, .int .i64 b.den] 24).alloc #[.int .i64 0, .int .i64 0] 24
  simp only [World.size_alloc] at X
  rcases Bool.eq_false_or_eq_true (vF a) with ha | ha
  rotate_left
  · have H := hide (op2_no1 (b := b) ha (a.num * b.den + b.num * a.den) (a.den * b.den))
    go_enter Tryd.func33, Tryd.ntmps33
    go_wp2_with fail
    refine (refv_any a _).mono ?_
    rintro e w1 ⟨rfl, hb⟩
    replace X := X.to hb
    clear hb
    have hr := X.r3
    rw [ha]
    go_wp2
    exact bodyPost_ret (v := .tuple #[Fr.zero.val, .int .i64 1]) (by simp [results, Tryd.results33, hr, Fr.zero, go_sem]) rfl (RetFE.mk (by have HX := X.1; have hz := HX.size; go_grown) H.out.1 H.out.2)
  rcases Bool.eq_false_or_eq_true (vF b) with hb' | hb'
  rotate_left
  · have H := hide (op2_no2 (a := a) hb' (a.num * b.den + b.num * a.den) (a.den * b.den))
    go_enter Tryd.func33, Tryd.ntmps33
    go_wp2_with fail
    refine (refv_any a _).mono ?_
    rintro e w1 ⟨rfl, hb⟩
    replace X := X.to hb
    clear hb
    have hr := X.r3
    rw [ha]
    go_wp2_with fail
    refine (refv_any b _).mono ?_
    rintro e w1 ⟨rfl, hb⟩
    replace X := X.to hb
    clear hb hr
    have hr := X.r3
    rw [hb']
    go_wp2
    exact bodyPost_ret (v := .tuple #[Fr.zero.val, .int .i64 1]) (by simp [results, Tryd.results33, hr, Fr.zero, go_sem]) rfl (RetFE.mk (by have HX := X.1; have hz := HX.size; go_grown) H.out.1 H.out.2)
  · have H := hide (op2_yes ha hb' (a.num * b.den + b.num * a.den) (a.den * b.den))
    obtain ⟨⟨n1, n2⟩, ⟨n3, n4⟩, ⟨n5, n6⟩, ⟨n7, n8⟩, n9, n10⟩ := fr_prod ha hb'
    have e1 := w64 (z := a.num * b.num) (by omega) (by omega)
    have e2 := w64 (z := a.num * b.den) (by omega) (by omega)
    have e3 := w64 (z := b.num * a.den) (by omega) (by omega)
    have e4 := w64 (z := a.den * b.num) (by omega) (by omega)
    have e5 := w64 (z := a.den * b.den) (by omega) (by omega)
    have e6 := w64 (z := a.num * b.den + b.num * a.den) (by omega) (by omega)
    have C := hide (fun W => rmake_any (a.num * b.den + b.num * a.den) (a.den * b.den) W (by omega) (by omega) (by omega) (by omega))
    rw [IntWalk.i64_left] at e1 e2 e3 e4 e5 e6
    clear n1 n2 n3 n4 n5 n6 n7 n8 n9 n10
    go_enter Tryd.func33, Tryd.ntmps33
    go_wp2_with fail
    refine (refv_any a _).mono ?_
    rintro e w1 ⟨rfl, hb⟩
    replace X := X.to hb
    clear hb
    have hr := X.r3
    rw [ha]
    go_wp2_with fail
    refine (refv_any b _).mono ?_
    rintro e w1 ⟨rfl, hb⟩
    replace X := X.to hb
    clear hb hr
    have hr := X.r3
    rw [hb']
    go_wp2_with fail
    first
    | (refine (C.out _).mono ?_)
    | (go_quiet (fail); replace X := X.drewN nq; generalize World.drewN _ nq = W at *; have hr := X.r3; go_wp2_with fail; refine (C.out _).mono ?_)
    rintro e w1 ⟨rfl, hb⟩
    replace X := X.to hb
    clear hb hr
    have hr := X.r3
    go_wp2
    exact bodyPost_ret (v := .tuple #[(mkF (a.num * b.den + b.num * a.den) (a.den * b.den)).val, .int .i64 (mkE (a.num * b.den + b.num * a.den) (a.den * b.den))]) (by simp [results, Tryd.results33, hr, go_sem]) rfl (RetFE.mk (by have HX := X.1; have hz := HX.size; go_grown) H.out.1 H.out.2)
set_option maxRecDepth 100000 in
set_option maxHeartbeats 1000000 in
theorem rmul_any (a b : Fr) (w : World) : Calls Tryd.prog 35 #[a.val, b.val] w (RetFE (mulF a b) (mulE a b) w) := by
  have X := (((Own.start w).alloc #[.int .i64 a.num, .int .i64 a.den] 24).alloc #[.int .i64 b.num, .int .i64 b.den] 24).alloc #[.int .i64 0, .int .i64 0] 24
  simp only [World.size_alloc] at X
  rcases Bool.eq_false_or_eq_true (vF a) with ha | ha
  rotate_left
  · have H := hide (op2_no1 (b := b) ha (a.num * b.num) (a.den * b.den))
    go_enter Tryd.func35, Tryd.ntmps35
    go_wp2_with fail
    refine (refv_any a _).mono ?_
    rintro e w1 ⟨rfl, hb⟩
    replace X := X.to hb
    clear hb
    have hr := X.r3
    rw [ha]
    go_wp2
    exact bodyPost_ret (v := .tuple #[Fr.zero.val, .int .i64 1]) (by simp [results, Tryd.results35, hr, Fr.zero, go_sem]) rfl (RetFE.mk (by have HX := X.1; have hz := HX.size; go_grown) H.out.1 H.out.2)
  rcases Bool.eq_false_or_eq_true (vF b) with hb' | hb'
  rotate_left
  · have H := hide (op2_no2 (a := a) hb' (a.num * b.num) (a.den * b.den))
    go_enter Tryd.func35, Tryd.ntmps35
    go_wp2_with fail
    refine (refv_any a _).mono ?_
    rintro e w1 ⟨rfl, hb⟩
    replace X := X.to hb
    clear hb
    have hr := X.r3
    rw [ha]
    go_wp2_with fail
    refine (refv_any b _).mono ?_
    rintro e w1 ⟨rfl, hb⟩
    replace X := X.to hb
    clear hb hr
    have hr := X.r3
    rw [hb']
    go_wp2
    exact bodyPost_ret (v := .tuple #[Fr.zero.val, .int .i64 1]) (by simp [results, Tryd.results35, hr, Fr.zero, go_sem]) rfl (RetFE.mk (by have HX := X.1; have hz := HX.size; go_grown) H.out.1 H.out.2)
  · have H := hide (op2_yes ha hb' (a.num * b.num) (a.den * b.den))
    obtain ⟨⟨n1, n2⟩, ⟨n3, n4⟩, ⟨n5, n6⟩, ⟨n7, n8⟩, n9, n10⟩ := fr_prod ha hb'
    have e1 := w64 (z := a.num * b.num) (by omega) (by omega)
    have e2 := w64 (z := a.num * b.den) (by omega) (by omega)
    have e3 := w64 (z := b.num * a.den) (by omega) (by omega)
    have e4 := w64 (z := a.den * b.num) (by omega) (by omega)
    have e5 := w64 (z := a.den * b.den) (by omega) (by omega)
    have e6 := w64 (z := a.num * b.den + b.num * a.den) (by omega) (by omega)
    have C := hide (fun W => rmake_any (a.num * b.num) (a.den * b.den) W (by omega) (by omega) (by omega) (by omega))
    rw [IntWalk.i64_left] at e1 e2 e3 e4 e5 e6
    clear n1 n2 n3 n4 n5 n6 n7 n8 n9 n10
    go_enter Tryd.func35, Tryd.ntmps35
    go_wp2_with fail
    refine (refv_any a _).mono ?_
    rintro e w1 ⟨rfl, hb⟩
    replace X := X.to hb
    clear hb
    have hr := X.r3
    rw [ha]
    go_wp2_with fail
    refine (refv_any b _).mono ?_
    rintro e w1 ⟨rfl, hb⟩
    replace X := X.to hb
    clear hb hr
    have hr := X.r3
    rw [hb']
    go_wp2_with fail
    first
    | (refine (C.out _).mono ?_)
    | (go_quiet (fail); replace X := X.drewN nq; generalize World.drewN _ nq = W at *; have hr := X.r3; go_wp2_with fail; refine (C.out _).mono ?_)
    rintro e w1 ⟨rfl, hb⟩
    replace X := X.to hb
    clear hb hr
    have hr := X.r3
    go_wp2
    exact bodyPost_ret (v := .tuple #[(mkF (a.num * b.num) (a.den * b.den)).val, .int .i64 (mkE (a.num * b.num) (a.den * b.den))]) (by simp [results, Tryd.results35, hr, go_sem]) rfl (RetFE.mk (by have HX := X.1; have hz := HX.size; go_grown) H.out.1 H.out.2)
set_option maxRecDepth 100000 in
set_option maxHeartbeats 1000000 in
theorem rdiv_any (a b : Fr) (w : World) : Calls Tryd.prog 36 #[a.val, b.val] w (RetFE (divF a b) (divE a b) w) := by
  have X := (((Own.start w).alloc #[.int .i64 a.num, .int .i64 a.den] 24).alloc #[.int .i64 b.num, .int .i64 b.den] 24).alloc #[.int .i64 0, .int .i64 0] 24
  simp only [World.size_alloc] at X
  rcases Bool.eq_false_or_eq_true (vF a) with ha | ha
  rotate_left
  · have H := hide (op2_no1 (b := b) ha (a.num * b.den) (a.den * b.num))
    go_enter Tryd.func36, Tryd.ntmps36
    go_wp2_with fail
    refine (refv_any a _).mono ?_
    rintro e w1 ⟨rfl, hb⟩
    replace X := X.to hb
    clear hb
    have hr := X.r3
    rw [ha]
    go_wp2
    exact bodyPost_ret (v := .tuple #[Fr.zero.val, .int .i64 1]) (by simp [results, Tryd.results36, hr, Fr.zero, go_sem]) rfl (RetFE.mk (by have HX := X.1; have hz := HX.size; go_grown) H.out.1 H.out.2)
  rcases Bool.eq_false_or_eq_true (vF b) with hb' | hb'
  rotate_left
  · have H := hide (op2_no2 (a := a) hb' (a.num * b.den) (a.den * b.num))
    go_enter Tryd.func36, Tryd.ntmps36
    go_wp2_with fail
    refine (refv_any a _).mono ?_
    rintro e w1 ⟨rfl, hb⟩
    replace X := X.to hb
    clear hb
    have hr := X.r3
    rw [ha]
    go_wp2_with fail
    refine (refv_any b _).mono ?_
    rintro e w1 ⟨rfl, hb⟩
    replace X := X.to hb
    clear hb hr
    have hr := X.r3
    rw [hb']
    go_wp2
    exact bodyPost_ret (v := .tuple #[Fr.zero.val, .int .i64 1]) (by simp [results, Tryd.results36, hr, Fr.zero, go_sem]) rfl (RetFE.mk (by have HX := X.1; have hz := HX.size; go_grown) H.out.1 H.out.2)
  · have H := hide (op2_yes ha hb' (a.num * b.den) (a.den * b.num))
    obtain ⟨⟨n1, n2⟩, ⟨n3, n4⟩, ⟨n5, n6⟩, ⟨n7, n8⟩, n9, n10⟩ := fr_prod ha hb'
    have e1 := w64 (z := a.num * b.num) (by omega) (by omega)
    have e2 := w64 (z := a.num * b.den) (by omega) (by omega)
    have e3 := w64 (z := b.num * a.den) (by omega) (by omega)
    have e4 := w64 (z := a.den * b.num) (by omega) (by omega)
    have e5 := w64 (z := a.den * b.den) (by omega) (by omega)
    have e6 := w64 (z := a.num * b.den + b.num * a.den) (by omega) (by omega)
    have C := hide (fun W => rmake_any (a.num * b.den) (a.den * b.num) W (by omega) (by omega) (by omega) (by omega))
    rw [IntWalk.i64_left] at e1 e2 e3 e4 e5 e6
    clear n1 n2 n3 n4 n5 n6 n7 n8 n9 n10
    go_enter Tryd.func36, Tryd.ntmps36
    go_wp2_with fail
    refine (refv_any a _).mono ?_
    rintro e w1 ⟨rfl, hb⟩
    replace X := X.to hb
    clear hb
    have hr := X.r3
    rw [ha]
    go_wp2_with fail
    refine (refv_any b _).mono ?_
    rintro e w1 ⟨rfl, hb⟩
    replace X := X.to hb
    clear hb hr
    have hr := X.r3
    rw [hb']
    go_wp2_with fail
    first
    | (refine (C.out _).mono ?_)
    | (go_quiet (fail); replace X := X.drewN nq; generalize World.drewN _ nq = W at *; have hr := X.r3; go_wp2_with fail; refine (C.out _).mono ?_)
    rintro e w1 ⟨rfl, hb⟩
    replace X := X.to hb
    clear hb hr
    have hr := X.r3
    go_wp2
    exact bodyPost_ret (v := .tuple #[(mkF (a.num * b.den) (a.den * b.num)).val, .int .i64 (mkE (a.num * b.den) (a.den * b.num))]) (by simp [results, Tryd.results36, hr, go_sem]) rfl (RetFE.mk (by have HX := X.1; have hz := HX.size; go_grown) H.out.1 H.out.2)
theorem sub_add (a b : Fr) : addF a (negF b) = subF a b ∧ addE a (negF b) = subE a b := by
  have e : a.num * (negF b).den + (negF b).num * a.den = a.num * b.den - b.num * a.den := by simp only [negF]; rw [Int.neg_mul]; omega
  have e2 : a.den * (negF b).den = a.den * b.den := rfl
  unfold addF addE subF subE op2F op2E
  rw [e, e2, vF_neg]
  exact ⟨rfl, rfl⟩
set_option maxRecDepth 100000 in
set_option maxHeartbeats 1000000 in
theorem rsub_any (a b : Fr) (w : World) : Calls Tryd.prog 34 #[a.val, b.val] w (RetFE (subF a b) (subE a b) w) := by
  have X := (((Own.start w).alloc #[.int .i64 a.num, .int .i64 a.den] 24).alloc #[.int .i64 b.num, .int .i64 b.den] 24).alloc #[.int .i64 0, .int .i64 0] 24
  simp only [World.size_alloc] at X
  rcases Bool.eq_false_or_eq_true (vF a) with ha | ha
  rotate_left
  · have H := hide (op2_no1 (b := b) ha (a.num * b.den - b.num * a.den) (a.den * b.den))
    go_enter Tryd.func34, Tryd.ntmps34
    go_wp2_with fail
    refine (refv_any a _).mono ?_
    rintro e w1 ⟨rfl, hb⟩
    replace X := X.to hb
    clear hb
    have hr := X.r3
    rw [ha]
    go_wp2
    exact bodyPost_ret (v := .tuple #[Fr.zero.val, .int .i64 1]) (by simp [results, Tryd.results34, hr, Fr.zero, go_sem]) rfl (RetFE.mk (by have HX := X.1; have hz := HX.size; go_grown) H.out.1 H.out.2)
  rcases Bool.eq_false_or_eq_true (vF b) with hb' | hb'
  rotate_left
  · have H := hide (op2_no2 (a := a) hb' (a.num * b.den - b.num * a.den) (a.den * b.den))
    go_enter Tryd.func34, Tryd.ntmps34
    go_wp2_with fail
    refine (refv_any a _).mono ?_
    rintro e w1 ⟨rfl, hb⟩
    replace X := X.to hb
    clear hb
    have hr := X.r3
    rw [ha]
    go_wp2_with fail
    refine (refv_any b _).mono ?_
    rintro e w1 ⟨rfl, hb⟩
    replace X := X.to hb
    clear hb hr
    have hr := X.r3
    rw [hb']
    go_wp2
    exact bodyPost_ret (v := .tuple #[Fr.zero.val, .int .i64 1]) (by simp [results, Tryd.results34, hr, Fr.zero, go_sem]) rfl (RetFE.mk (by have HX := X.1; have hz := HX.size; go_grown) H.out.1 H.out.2)
  have H := hide (sub_add a b)
  have C1 := fun W => neg_any b W hb'
  have C2 := fun W => radd_any a (negF b) W
  rw [H.out.1, H.out.2] at C2
  generalize negF b = nb at *
  generalize subF a b = s at *
  generalize subE a b = er at *
  go_enter Tryd.func34, Tryd.ntmps34
  go_wp2_with fail
  refine (refv_any a _).mono ?_
  rintro e w1 ⟨rfl, hb⟩
  replace X := X.to hb
  clear hb
  have hr := X.r3
  rw [ha]
  go_wp2_with fail
  refine (refv_any b _).mono ?_
  rintro e w1 ⟨rfl, hb⟩
  replace X := X.to hb
  clear hb hr
  have hr := X.r3
  rw [hb']
  clear ha hb'
  go_wp2_with fail
  have n1 : ¬ w.heap.size = w.heap.size + 1 + 1 := by omega
  have n2 : ¬ w.heap.size + 1 = w.heap.size + 1 + 1 := by omega
  have n3 : ¬ w.heap.size + 1 + 1 = w.heap.size := by omega
  have n4 : ¬ w.heap.size + 1 + 1 = w.heap.size + 1 := by omega
  have n5 : w.heap.size ≤ w.heap.size + 1 + 1 := by omega
  generalize w.heap.size + 1 + 1 = g3 at *
  have HX := hide X
  clear X
  go_region_held3 (fun w' => w'.cell? ⟨w.heap.size, 0, none⟩ = some (.int .i64 a.num) ∧ w'.cell? ⟨w.heap.size, 1, none⟩ = some (.int .i64 a.den) ∧ w'.cell? ⟨w.heap.size + 1, 0, none⟩ = some (.int .i64 b.num) ∧ w'.cell? ⟨w.heap.size + 1, 1, none⟩ = some (.int .i64 b.den)) (go_keep) (first | (go_at_call 49; ((with_reducible refine (C1 _).mono ?_); rintro e w' ⟨rfl, hb1⟩); have hq1 := (HX.out.drew.to hb1).r3) | (go_at_call 33; ((with_reducible refine (C2 _).mono ?_); rintro e w' ⟨rfl, hb2⟩); have hq2 := ((HX.out.drew.to hb1).to hb2).r3))
  have X := (HX.out.drew.to hb1).to hb2
  clear hb1 hb2 hq1 hr HX
  have hr := X.r3
  go_wp2
  exact bodyPost_ret (v := .tuple #[s.val, .int .i64 er]) (by simp [results, Tryd.results34, hr, go_sem]) rfl (RetFE.mk (by have HX := X.1; have hz := HX.size; go_grown) rfl rfl)

set_option maxRecDepth 100000 in
set_option maxHeartbeats 1000000 in
theorem rfloor_any (a : Fr) (w : World) (ha : vF a = true) : Calls Tryd.prog 24 #[a.val] w (RetB (.int .i64 (flF a)) w) := by
  have X := (Own.start w).alloc #[.int .i64 a.num, .int .i64 a.den] 24
  have hr := X.r1
  have b := fl_spec ha
  obtain ⟨k1, k2, k3, k4⟩ := (vF_iff.1 ha).1
  have hd0 : a.den ≠ 0 := by omega
  have T := tmod_flF (a := a) (by omega)
  have bq : -1073741825 ≤ a.num.tdiv a.den ∧ a.num.tdiv a.den ≤ 1073741825 := by
    rcases T with ⟨_, h⟩ | ⟨_, h⟩ <;> omega
  obtain ⟨q1, q2⟩ := bq
  have B := hide b
  clear b ha
  rcases T with ⟨c1, c2⟩ | ⟨c1, c2⟩
  all_goals
    generalize hq : a.num.tdiv a.den = q at *
    generalize hrr : a.num.tmod a.den = r at *
    go_enter Tryd.func24, Tryd.ntmps24
    go_wp2
    go_ret
    exact ⟨by first | rfl | (rw [c2]), X.1⟩
set_option maxRecDepth 100000 in
set_option maxHeartbeats 1000000 in
theorem rceil_any (a : Fr) (w : World) (ha : vF a = true) : Calls Tryd.prog 25 #[a.val] w (RetB (.int .i64 (ceF a)) w) := by
  have X := (Own.start w).alloc #[.int .i64 a.num, .int .i64 a.den] 24
  have hr := X.r1
  have hn : vF (negF a) = true := by rw [vF_neg]; exact ha
  have C1 := fun W => neg_any a W ha
  have C2 := fun W => rfloor_any (negF a) W hn
  obtain ⟨_, _, b1, b2⟩ := fl_spec hn
  have E : Hid (ceF a = -flF (negF a)) := hide rfl
  clear hn ha
  generalize flF (negF a) = f at *
  generalize negF a = na at *
  go_enter Tryd.func25, Tryd.ntmps25
  go_wp2_with fail
  refine (C1 _).mono ?_
  rintro e w1 ⟨rfl, hb⟩
  replace X := X.to hb
  clear hb hr
  go_wp2_with fail
  refine (C2 _).mono ?_
  rintro e w1 ⟨rfl, hb⟩
  replace X := X.to hb
  clear hb
  go_wp2
  go_ret
  exact ⟨ret_int E.out.symm, X.1⟩
set_option maxRecDepth 100000 in
set_option maxHeartbeats 1000000 in
theorem rcmp_any (a b : Fr) (w : World) (ha : vF a = true) (hb' : vF b = true) : Calls Tryd.prog 26 #[a.val, b.val] w (RetB (.int .i64 (cmpF a b)) w) := by
  have X := ((Own.start w).alloc #[.int .i64 a.num, .int .i64 a.den] 24).alloc #[.int .i64 b.num, .int .i64 b.den] 24
  simp only [World.size_alloc] at X
  have hr := X.r2
  obtain ⟨_, ⟨n3, n4⟩, ⟨n5, n6⟩, _, _⟩ := fr_prod ha hb'
  have T : (decide (a.num * b.den < b.num * a.den) = true ∧ cmpF a b = -1) ∨ (decide (a.num * b.den < b.num * a.den) = false ∧ decide (b.num * a.den < a.num * b.den) = true ∧ cmpF a b = 1) ∨ (decide (a.num * b.den < b.num * a.den) = false ∧ decide (b.num * a.den < a.num * b.den) = false ∧ cmpF a b = 0) := by
    unfold cmpF cmpD
    by_cases h : a.num * b.den < b.num * a.den
    · exact .inl ⟨decide_eq_true h, by rw [if_pos (by omega)]⟩
    · by_cases h' : b.num * a.den < a.num * b.den
      · exact .inr (.inl ⟨decide_eq_false h, decide_eq_true h', by rw [if_neg (by omega), if_pos (by omega)]⟩)
      · exact .inr (.inr ⟨decide_eq_false h, decide_eq_false h', by rw [if_neg (by omega), if_neg (by omega)]⟩)
  generalize hp : a.num * b.den = p at *
  generalize hq : b.num * a.den = q at *
  clear ha hb'
  rcases T with ⟨c1, c2⟩ | ⟨c1, c3, c2⟩ | ⟨c1, c3, c2⟩
  all_goals
    rw [c2]
    clear c2
    go_enter Tryd.func26, Tryd.ntmps26
    go_wp2
    go_ret
    exact ⟨rfl, X.1⟩
end Go.Proofs.YtbmckddjdkjplaaDoor
