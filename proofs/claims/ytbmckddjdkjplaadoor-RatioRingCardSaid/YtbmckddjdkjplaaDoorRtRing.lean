/- RatioRing: sums and products follow the usual rules: for all fractions the law returns true. -/
import Derived.Test.YtbmckddjdkjplaaDoorRtRing0
namespace Go.Proofs.YtbmckddjdkjplaaDoor
open Go Go.RowKit

theorem pair_facts {x y : Fr} (h : PairOk x y) : ((x.num == 0) = true ∧ (x.den == 0) = true) ∨ ((x.den == 0) = false ∧ (y.num == 0) = true ∧ (y.den == 0) = true) ∨ ((x.den == 0) = false ∧ y = x) := by
  rcases h with h | ⟨h1, h2⟩ | ⟨h1, h2⟩
  · subst h; exact .inl ⟨rfl, rfl⟩
  · subst h2; exact .inr (.inl ⟨h1, rfl, rfl⟩)
  · exact .inr (.inr ⟨h1, h2.symm⟩)
set_option maxRecDepth 100000 in
set_option maxHeartbeats 16000000 in
theorem ring_law (a b c : Fr) (w : World) (ht : PowTab w) : Calls Tryd.prog 7 #[a.val, b.val, c.val] w (RetB (.bool true) w) := by
  have X := (((Own.start w).alloc #[.int .i64 a.num, .int .i64 a.den] 24).alloc #[.int .i64 b.num, .int .i64 b.den] 24).alloc #[.int .i64 c.num, .int .i64 c.den] 24
  simp only [World.size_alloc] at X
  have HT := hide (ht.below (X.1))
  clear ht
  have V1 := rvalid_any a
  have V2 := rvalid_any b
  have V3 := rvalid_any c
  rcases Bool.eq_false_or_eq_true (vF a) with ha | ha
  rotate_left
  · rw [ha] at V1
    clear ha
    go_enter Tryd.func7, Tryd.ntmps7
    have hr := X.r3
    go_wp2_with fail
    refine (awake_any _ HT.out).mono ?_
    rintro e w1 ⟨rfl, hb⟩
    replace X := X.to hb
    clear hb hr
    have hr := X.r3
    go_wp2_with fail
    refine (V1 _).mono ?_
    rintro e w2 ⟨rfl, hb⟩
    replace X := X.to hb
    clear hb hr
    have hr := X.r3
    go_wp2
    go_ret
    exact ⟨rfl, by have HX := X.1; have hz := HX.size; go_grown⟩
  rcases Bool.eq_false_or_eq_true (vF b) with hb' | hb'
  rotate_left
  · rw [ha] at V1
    rw [hb'] at V2
    clear ha hb'
    go_enter Tryd.func7, Tryd.ntmps7
    have hr := X.r3
    go_wp2_with fail
    refine (awake_any _ HT.out).mono ?_
    rintro e w1 ⟨rfl, hb⟩
    replace X := X.to hb
    clear hb hr
    have hr := X.r3
    go_wp2_with fail
    refine (V1 _).mono ?_
    rintro e w2 ⟨rfl, hb⟩
    replace X := X.to hb
    clear hb hr
    have hr := X.r3
    go_wp2_with fail
    refine (V2 _).mono ?_
    rintro e w3 ⟨rfl, hb⟩
    replace X := X.to hb
    clear hb hr
    have hr := X.r3
    go_wp2
    go_ret
    exact ⟨rfl, by have HX := X.1; have hz := HX.size; go_grown⟩
  rcases Bool.eq_false_or_eq_true (vF c) with hc | hc
  rotate_left
  · rw [ha] at V1
    rw [hb'] at V2
    rw [hc] at V3
    clear ha hb' hc
    go_enter Tryd.func7, Tryd.ntmps7
    have hr := X.r3
    go_wp2_with fail
    refine (awake_any _ HT.out).mono ?_
    rintro e w1 ⟨rfl, hb⟩
    replace X := X.to hb
    clear hb hr
    have hr := X.r3
    go_wp2_with fail
    refine (V1 _).mono ?_
    rintro e w2 ⟨rfl, hb⟩
    replace X := X.to hb
    clear hb hr
    have hr := X.r3
    go_wp2_with fail
    refine (V2 _).mono ?_
    rintro e w3 ⟨rfl, hb⟩
    replace X := X.to hb
    clear hb hr
    have hr := X.r3
    go_wp2_with fail
    refine (V3 _).mono ?_
    rintro e w4 ⟨rfl, hb⟩
    replace X := X.to hb
    clear hb hr
    have hr := X.r3
    go_wp2
    go_ret
    exact ⟨rfl, by have HX := X.1; have hz := HX.size; go_grown⟩
  rw [ha] at V1
  rw [hb'] at V2
  rw [hc] at V3
  have P1 : PairOk (addF (addF a b) c) (addF a (addF b c)) := pair_ok (fun h => op2_den h) ring1
  have P2 : PairOk (mulF (mulF a b) c) (mulF a (mulF b c)) := pair_ok (fun h => op2_den h) ring2
  have P3 : PairOk (mulF a (addF b c)) (addF (mulF a b) (mulF a c)) := pair_ok (fun h => op2_den h) ring3
  have P1 := hide P1
  have P2 := hide P2
  have P3 := hide P3
  have D1 := fun W => ringadd_any a b W
  have D2 := fun W => ringadd_any b a W
  have D3 := fun W => ringmul_any a b W
  have D4 := fun W => ringmul_any b a W
  rw [add_comm_ b a] at D2
  rw [mul_comm_ b a] at D4
  have C2 := fun W => ringadd_any (addF a b) c W
  have C3 := fun W => ringadd_any b c W
  have C4 := fun W => ringadd_any a (addF b c) W
  have C6 := fun W => ringmul_any (mulF a b) c W
  have C7 := fun W => ringmul_any b c W
  have C8 := fun W => ringmul_any a (mulF b c) W
  have C9 := fun W => ringmul_any a (addF b c) W
  have C10 := fun W => ringmul_any a c W
  have C11 := fun W => ringadd_any (mulF a b) (mulF a c) W
  clear ha hb' hc
  generalize addF (addF a b) c = t1 at *
  generalize addF a (addF b c) = t2 at *
  generalize mulF (mulF a b) c = t3 at *
  generalize mulF a (mulF b c) = t4 at *
  generalize mulF a (addF b c) = t5 at *
  generalize addF (mulF a b) (mulF a c) = t6 at *
  generalize addF a b = s1 at *
  generalize addF b c = s2 at *
  generalize mulF a b = m1 at *
  generalize mulF b c = m2 at *
  generalize mulF a c = m3 at *
  go_enter Tryd.func7, Tryd.ntmps7
  have hr := X.r3
  go_wp2_with fail
  refine (awake_any _ HT.out).mono ?_
  rintro e w1 ⟨rfl, hb⟩
  replace X := X.to hb
  clear hb hr
  have hr := X.r3
  go_wp2_with fail
  refine (V1 _).mono ?_
  rintro e w2 ⟨rfl, hb⟩
  replace X := X.to hb
  clear hb hr
  have hr := X.r3
  go_wp2_with fail
  refine (V2 _).mono ?_
  rintro e w3 ⟨rfl, hb⟩
  replace X := X.to hb
  clear hb hr
  have hr := X.r3
  go_wp2_with fail
  refine (V3 _).mono ?_
  rintro e w4 ⟨rfl, hb⟩
  replace X := X.to hb
  clear hb hr
  have hr := X.r3
  go_wp2_with fail
  have HX := hide X
  clear X
  go_region_held3 (fun w' => w'.cell? ⟨w.heap.size, 0, none⟩ = some (.int .i64 a.num) ∧ w'.cell? ⟨w.heap.size, 1, none⟩ = some (.int .i64 a.den) ∧ w'.cell? ⟨w.heap.size + 1, 0, none⟩ = some (.int .i64 b.num) ∧ w'.cell? ⟨w.heap.size + 1, 1, none⟩ = some (.int .i64 b.den) ∧ w'.cell? ⟨w.heap.size + 1 + 1, 0, none⟩ = some (.int .i64 c.num) ∧ w'.cell? ⟨w.heap.size + 1 + 1, 1, none⟩ = some (.int .i64 c.den)) (go_keep) (first | (go_at_call 27; ((with_reducible refine (D1 _).mono ?_); rintro e w' ⟨rfl, hb⟩); (first | (replace HX := hide (HX.out.to hb)) | (replace HX := hide (HX.out.drew.to hb))); have hk := keeps hb; clear hb) | (go_at_call 27; ((with_reducible refine (D2 _).mono ?_); rintro e w' ⟨rfl, hb⟩); (first | (replace HX := hide (HX.out.to hb)) | (replace HX := hide (HX.out.drew.to hb))); have hk := keeps hb; clear hb) | (go_at_call 29; ((with_reducible refine (D3 _).mono ?_); rintro e w' ⟨rfl, hb⟩); (first | (replace HX := hide (HX.out.to hb)) | (replace HX := hide (HX.out.drew.to hb))); have hk := keeps hb; clear hb) | (go_at_call 29; ((with_reducible refine (D4 _).mono ?_); rintro e w' ⟨rfl, hb⟩); (first | (replace HX := hide (HX.out.to hb)) | (replace HX := hide (HX.out.drew.to hb))); have hk := keeps hb; clear hb))
  have hr := HX.out.r3
  go_wp2_with fail
  go_region_held3 (fun w' => w'.cell? ⟨w.heap.size, 0, none⟩ = some (.int .i64 a.num) ∧ w'.cell? ⟨w.heap.size, 1, none⟩ = some (.int .i64 a.den) ∧ w'.cell? ⟨w.heap.size + 1, 0, none⟩ = some (.int .i64 b.num) ∧ w'.cell? ⟨w.heap.size + 1, 1, none⟩ = some (.int .i64 b.den) ∧ w'.cell? ⟨w.heap.size + 1 + 1, 0, none⟩ = some (.int .i64 c.num) ∧ w'.cell? ⟨w.heap.size + 1 + 1, 1, none⟩ = some (.int .i64 c.den)) (go_keep) (first | (go_at_call 27; ((with_reducible refine (D1 _).mono ?_); rintro e w' ⟨rfl, hb⟩); (first | (replace HX := hide (HX.out.to hb)) | (replace HX := hide (HX.out.drew.to hb))); have hk := keeps hb; clear hb) | (go_at_call 27; ((with_reducible refine (C2 _).mono ?_); rintro e w' ⟨rfl, hb⟩); (first | (replace HX := hide (HX.out.to hb)) | (replace HX := hide (HX.out.drew.to hb))); have hk := keeps hb; clear hb) | (go_at_call 27; ((with_reducible refine (C3 _).mono ?_); rintro e w' ⟨rfl, hb⟩); (first | (replace HX := hide (HX.out.to hb)) | (replace HX := hide (HX.out.drew.to hb))); have hk := keeps hb; clear hb) | (go_at_call 27; ((with_reducible refine (C4 _).mono ?_); rintro e w' ⟨rfl, hb⟩); (first | (replace HX := hide (HX.out.to hb)) | (replace HX := hide (HX.out.drew.to hb))); have hk := keeps hb; clear hb) | (go_at_call 27; ((with_reducible refine (C11 _).mono ?_); rintro e w' ⟨rfl, hb⟩); (first | (replace HX := hide (HX.out.to hb)) | (replace HX := hide (HX.out.drew.to hb))); have hk := keeps hb; clear hb) | (go_at_call 29; ((with_reducible refine (D3 _).mono ?_); rintro e w' ⟨rfl, hb⟩); (first | (replace HX := hide (HX.out.to hb)) | (replace HX := hide (HX.out.drew.to hb))); have hk := keeps hb; clear hb) | (go_at_call 29; ((with_reducible refine (C6 _).mono ?_); rintro e w' ⟨rfl, hb⟩); (first | (replace HX := hide (HX.out.to hb)) | (replace HX := hide (HX.out.drew.to hb))); have hk := keeps hb; clear hb) | (go_at_call 29; ((with_reducible refine (C7 _).mono ?_); rintro e w' ⟨rfl, hb⟩); (first | (replace HX := hide (HX.out.to hb)) | (replace HX := hide (HX.out.drew.to hb))); have hk := keeps hb; clear hb) | (go_at_call 29; ((with_reducible refine (C8 _).mono ?_); rintro e w' ⟨rfl, hb⟩); (first | (replace HX := hide (HX.out.to hb)) | (replace HX := hide (HX.out.drew.to hb))); have hk := keeps hb; clear hb) | (go_at_call 29; ((with_reducible refine (C9 _).mono ?_); rintro e w' ⟨rfl, hb⟩); (first | (replace HX := hide (HX.out.to hb)) | (replace HX := hide (HX.out.drew.to hb))); have hk := keeps hb; clear hb) | (go_at_call 29; ((with_reducible refine (C10 _).mono ?_); rintro e w' ⟨rfl, hb⟩); (first | (replace HX := hide (HX.out.to hb)) | (replace HX := hide (HX.out.drew.to hb))); have hk := keeps hb; clear hb))
  have Y0 := HX.out.alloc #[.int .i64 t1.num, .int .i64 t1.den, .int .i64 t2.num, .int .i64 t2.den, .int .i64 t3.num, .int .i64 t3.den, .int .i64 t4.num, .int .i64 t4.den, .int .i64 t5.num, .int .i64 t5.den, .int .i64 t6.num, .int .i64 t6.den] 51
  have Y : Own w _ [(w'.heap.size, 51, #[.int .i64 t1.num, .int .i64 t1.den, .int .i64 t2.num, .int .i64 t2.den, .int .i64 t3.num, .int .i64 t3.den, .int .i64 t4.num, .int .i64 t4.den, .int .i64 t5.num, .int .i64 t5.den, .int .i64 t6.num, .int .i64 t6.den])] := ⟨Y0.1, fun x hx => Y0.2 x (by simp only [List.mem_singleton] at hx; rw [hx]; exact List.mem_cons_self ..)⟩
  generalize w'.heap.size = g at *
  generalize w'.alloc (.cells #[.int .i64 t1.num, .int .i64 t1.den, .int .i64 t2.num, .int .i64 t2.den, .int .i64 t3.num, .int .i64 t3.den, .int .i64 t4.num, .int .i64 t4.den, .int .i64 t5.num, .int .i64 t5.den, .int .i64 t6.num, .int .i64 t6.den] 51) = W at *
  clear Y0 HX hr D1 D2 D3 D4 C2 C3 C4 C6 C7 C8 C9 C10 C11 V1 V2 V3
  go_wp2
  go_loopw [96] (fun v96 wr => ∃ k : Nat, k ≤ 3 ∧ v96 = .int .i64 k ∧ Own w wr [(g, 51, #[.int .i64 t1.num, .int .i64 t1.den, .int .i64 t2.num, .int .i64 t2.den, .int .i64 t3.num, .int .i64 t3.den, .int .i64 t4.num, .int .i64 t4.den, .int .i64 t5.num, .int .i64 t5.den, .int .i64 t6.num, .int .i64 t6.den])]) (fun v96 _ => 3 - (intOf v96).toNat)
  case atStart => exact ⟨0, by omega, rfl, Y⟩
  case round =>
    clear Y
    obtain ⟨k, hk, rfl, Y⟩ := hrel
    have e : k = 0 ∨ k = 1 ∨ k = 2 ∨ k = 3 := by omega
    rcases e with e | e | e | e
    · subst e
      rcases pair_facts P1.out with ⟨f1, f2⟩ | ⟨f1, f2, f3⟩ | ⟨f1, f2⟩
      · have hr := Y.r1
        have hr2 := (Y.alloc #[.int .i64 t1.num, .int .i64 t1.den, .int .i64 t2.num, .int .i64 t2.den] 51).r2
        go_wp2
        go_roundw
        case rel => exact ⟨1, by omega, by go_num, (Y.alloc #[.int .i64 t1.num, .int .i64 t1.den, .int .i64 t2.num, .int .i64 t2.den] 51).tail⟩
        case measure => simp [intOf]
      · have hr := Y.r1
        have hr2 := (Y.alloc #[.int .i64 t1.num, .int .i64 t1.den, .int .i64 t2.num, .int .i64 t2.den] 51).r2
        go_wp2
        go_roundw
        case rel => exact ⟨1, by omega, by go_num, (Y.alloc #[.int .i64 t1.num, .int .i64 t1.den, .int .i64 t2.num, .int .i64 t2.den] 51).tail⟩
        case measure => simp [intOf]
      · subst f2
        have hr := Y.r1
        have hr2 := (Y.alloc #[.int .i64 t2.num, .int .i64 t2.den, .int .i64 t2.num, .int .i64 t2.den] 51).r2
        go_wp2
        go_roundw
        case rel => exact ⟨1, by omega, by go_num, (Y.alloc #[.int .i64 t2.num, .int .i64 t2.den, .int .i64 t2.num, .int .i64 t2.den] 51).tail⟩
        case measure => simp [intOf]
    · subst e
      rcases pair_facts P2.out with ⟨f1, f2⟩ | ⟨f1, f2, f3⟩ | ⟨f1, f2⟩
      · have hr := Y.r1
        have hr2 := (Y.alloc #[.int .i64 t3.num, .int .i64 t3.den, .int .i64 t4.num, .int .i64 t4.den] 51).r2
        go_wp2
        go_roundw
        case rel => exact ⟨2, by omega, by go_num, (Y.alloc #[.int .i64 t3.num, .int .i64 t3.den, .int .i64 t4.num, .int .i64 t4.den] 51).tail⟩
        case measure => simp [intOf]
      · have hr := Y.r1
        have hr2 := (Y.alloc #[.int .i64 t3.num, .int .i64 t3.den, .int .i64 t4.num, .int .i64 t4.den] 51).r2
        go_wp2
        go_roundw
        case rel => exact ⟨2, by omega, by go_num, (Y.alloc #[.int .i64 t3.num, .int .i64 t3.den, .int .i64 t4.num, .int .i64 t4.den] 51).tail⟩
        case measure => simp [intOf]
      · subst f2
        have hr := Y.r1
        have hr2 := (Y.alloc #[.int .i64 t4.num, .int .i64 t4.den, .int .i64 t4.num, .int .i64 t4.den] 51).r2
        go_wp2
        go_roundw
        case rel => exact ⟨2, by omega, by go_num, (Y.alloc #[.int .i64 t4.num, .int .i64 t4.den, .int .i64 t4.num, .int .i64 t4.den] 51).tail⟩
        case measure => simp [intOf]
    · subst e
      rcases pair_facts P3.out with ⟨f1, f2⟩ | ⟨f1, f2, f3⟩ | ⟨f1, f2⟩
      · have hr := Y.r1
        have hr2 := (Y.alloc #[.int .i64 t5.num, .int .i64 t5.den, .int .i64 t6.num, .int .i64 t6.den] 51).r2
        go_wp2
        go_roundw
        case rel => exact ⟨3, by omega, by go_num, (Y.alloc #[.int .i64 t5.num, .int .i64 t5.den, .int .i64 t6.num, .int .i64 t6.den] 51).tail⟩
        case measure => simp [intOf]
      · have hr := Y.r1
        have hr2 := (Y.alloc #[.int .i64 t5.num, .int .i64 t5.den, .int .i64 t6.num, .int .i64 t6.den] 51).r2
        go_wp2
        go_roundw
        case rel => exact ⟨3, by omega, by go_num, (Y.alloc #[.int .i64 t5.num, .int .i64 t5.den, .int .i64 t6.num, .int .i64 t6.den] 51).tail⟩
        case measure => simp [intOf]
      · subst f2
        have hr := Y.r1
        have hr2 := (Y.alloc #[.int .i64 t6.num, .int .i64 t6.den, .int .i64 t6.num, .int .i64 t6.den] 51).r2
        go_wp2
        go_roundw
        case rel => exact ⟨3, by omega, by go_num, (Y.alloc #[.int .i64 t6.num, .int .i64 t6.den, .int .i64 t6.num, .int .i64 t6.den] 51).tail⟩
        case measure => simp [intOf]
    · subst e
      go_wp2
      go_ret
      exact ⟨rfl, Y.1⟩
end Go.Proofs.YtbmckddjdkjplaaDoor
