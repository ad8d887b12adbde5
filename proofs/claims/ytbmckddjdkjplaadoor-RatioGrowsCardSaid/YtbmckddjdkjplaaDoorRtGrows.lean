/- RatioGrows: adding, and multiplying by a positive fraction, keep the order: for all fractions the law returns true. -/
import Derived.Test.YtbmckddjdkjplaaDoorRtGrows00
import Derived.Test.YtbmckddjdkjplaaDoorRtGrows01
import Derived.Test.YtbmckddjdkjplaaDoorRtGrows02
import Derived.Test.YtbmckddjdkjplaaDoorRtGrows10
import Derived.Test.YtbmckddjdkjplaaDoorRtGrows11
import Derived.Test.YtbmckddjdkjplaaDoorRtGrows12
import Derived.Test.YtbmckddjdkjplaaDoorRtGrows20
import Derived.Test.YtbmckddjdkjplaaDoorRtGrows21
import Derived.Test.YtbmckddjdkjplaaDoorRtGrows22
namespace Go.Proofs.YtbmckddjdkjplaaDoor
open Go Go.RowKit

theorem calls_ie {f : FuncId} {args : Array Value} {w : World} {n er n' er' : Int} (h : Calls Tryd.prog f args w (RetIE n er w)) (h1 : n = n') (h2 : er = er') : Calls Tryd.prog f args w (RetIE n' er' w) := by rw [← h1, ← h2]; exact h
set_option maxRecDepth 100000 in
set_option maxHeartbeats 4000000 in
theorem grows_law (a b c : Fr) (w : World) (ht : PowTab w) : Calls Tryd.prog 10 #[a.val, b.val, c.val] w (RetB (.bool true) w) := by
  have V1 := rvalid_any a
  have V2 := rvalid_any b
  have V3 := rvalid_any c
  by_cases hv : vF a = true ∧ vF b = true ∧ vF c = true
  case neg =>
    have X := (((Own.start w).alloc #[.int .i64 a.num, .int .i64 a.den] 24).alloc #[.int .i64 b.num, .int .i64 b.den] 24).alloc #[.int .i64 c.num, .int .i64 c.den] 24
    simp only [World.size_alloc] at X
    have HT := hide (ht.below (X.1))
    clear ht
    rcases Bool.eq_false_or_eq_true (vF a) with ha | ha
    rotate_left
    · rw [ha] at V1
      clear ha hv
      go_enter Tryd.func10, Tryd.ntmps10
      have hr := X.r3
      go_wp2_with fail
      refine (awake_any _ HT.out).mono ?_
      rintro e w1 ⟨rfl, hb⟩
      replace X := X.to hb
      clear hb hr
      have hr := X.r3
      go_wp2_with fail
      refine (V1 _).mono ?_
      rintro e w2 ⟨rfl, hb⟩
      replace X := X.to hb
      clear hb hr
      have hr := X.r3
      go_wp2
      go_ret
      exact ⟨rfl, by have HX := X.1; have hz := HX.size; go_grown⟩
    rcases Bool.eq_false_or_eq_true (vF b) with hb' | hb'
    rotate_left
    · rw [ha] at V1
      rw [hb'] at V2
      clear ha hb' hv
      go_enter Tryd.func10, Tryd.ntmps10
      have hr := X.r3
      go_wp2_with fail
      refine (awake_any _ HT.out).mono ?_
      rintro e w1 ⟨rfl, hb⟩
      replace X := X.to hb
      clear hb hr
      have hr := X.r3
      go_wp2_with fail
      refine (V1 _).mono ?_
      rintro e w2 ⟨rfl, hb⟩
      replace X := X.to hb
      clear hb hr
      have hr := X.r3
      go_wp2_with fail
      refine (V2 _).mono ?_
      rintro e w3 ⟨rfl, hb⟩
      replace X := X.to hb
      clear hb hr
      have hr := X.r3
      go_wp2
      go_ret
      exact ⟨rfl, by have HX := X.1; have hz := HX.size; go_grown⟩
    rcases Bool.eq_false_or_eq_true (vF c) with hc | hc
    · exact absurd ⟨ha, hb', hc⟩ hv
    · rw [ha] at V1
      rw [hb'] at V2
      rw [hc] at V3
      clear ha hb' hc hv
      go_enter Tryd.func10, Tryd.ntmps10
      have hr := X.r3
      go_wp2_with fail
      refine (awake_any _ HT.out).mono ?_
      rintro e w1 ⟨rfl, hb⟩
      replace X := X.to hb
      clear hb hr
      have hr := X.r3
      go_wp2_with fail
      refine (V1 _).mono ?_
      rintro e w2 ⟨rfl, hb⟩
      replace X := X.to hb
      clear hb hr
      have hr := X.r3
      go_wp2_with fail
      refine (V2 _).mono ?_
      rintro e w3 ⟨rfl, hb⟩
      replace X := X.to hb
      clear hb hr
      have hr := X.r3
      go_wp2_with fail
      refine (V3 _).mono ?_
      rintro e w4 ⟨rfl, hb⟩
      replace X := X.to hb
      clear hb hr
      have hr := X.r3
      go_wp2
      go_ret
      exact ⟨rfl, by have HX := X.1; have hz := HX.size; go_grown⟩
  obtain ⟨ha, hb', hc⟩ := hv
  have A1 := fun W => calls_ie (cmp_any a b W) (n' := cmpF a b) (er' := 0) (by simp [cmpV, ha, hb']) (by simp [cmpV, ha, hb'])
  have A2 := fun W => calls_ie (cmp_any b a W) (n' := -cmpF a b) (er' := 0) (by simp [cmpV, ha, hb']; exact cmp_swap b a) (by simp [cmpV, ha, hb'])
  have A3 := fun W => add_any a c W
  have A4 := fun W => add_any b c W
  have A5 := fun W => cmp_any (addF a c) (addF b c) W
  have A6 := fun W => mul_any a c W
  have A7 := fun W => mul_any b c W
  have A8 := fun W => cmp_any (mulF a c) (mulF b c) W
  have nb : -1 ≤ cmpF a b ∧ cmpF a b ≤ 1 := by
    unfold cmpF
    by_cases h : cmpD a b < 0
    · rw [if_pos h]; omega
    · by_cases h' : 0 < cmpD a b
      · rw [if_neg h, if_pos h']; omega
      · rw [if_neg h, if_neg h']; omega
  have v1 : vF (addF a c) = decide (addE a c = 0) := op2_vF
  have v2 : vF (addF b c) = decide (addE b c = 0) := op2_vF
  have v3 : vF (mulF a c) = decide (mulE a c = 0) := op2_vF
  have v4 : vF (mulF b c) = decide (mulE b c = 0) := op2_vF
  have D : (b = a ∧ cmpF a b = 0) ∨ ((a.num == b.num) = false ∧ (cmpF a b == 0) = false) ∨ (∃ d : Int, b = ⟨a.num, d⟩ ∧ (a.den == d) = false ∧ (cmpF a b == 0) = false) := by
    by_cases h : a = b
    · exact .inl ⟨h.symm, (cmp_zero ha hb').2 h⟩
    · have hn : (cmpF a b == 0) = false := by simpa using fun e => h ((cmp_zero ha hb').1 e)
      by_cases h1 : a.num = b.num
      · exact .inr (.inr ⟨b.den, fr_eq h1.symm rfl, by simpa using fun e => h (fr_eq h1 e), hn⟩)
      · exact .inr (.inl ⟨by simpa using h1, hn⟩)
  have G1 : ((addE a c == 0) = true ∧ (addE b c == 0) = true ∧ cmpV (addF a c) (addF b c) (cmpF (addF a c) (addF b c)) 0 = cmpF a b ∧ cmpV (addF a c) (addF b c) 0 1 = 0) ∨ (addE a c == 0) = false ∨ ((addE a c == 0) = true ∧ (addE b c == 0) = false) := by
    by_cases h1 : addE a c = 0
    · by_cases h2 : addE b c = 0
      · refine .inl ⟨by simpa using h1, by simpa using h2, ?_, ?_⟩
        · unfold cmpV; rw [v1, v2, decide_eq_true h1, decide_eq_true h2, if_pos ⟨rfl, rfl⟩]; exact grow1 h1 h2
        · unfold cmpV; rw [v1, v2, decide_eq_true h1, decide_eq_true h2, if_pos ⟨rfl, rfl⟩]
      · exact .inr (.inr ⟨by simpa using h1, by simpa using h2⟩)
    · exact .inr (.inl (by simpa using h1))
  have G2 : decide (c.num ≤ 0) = true ∨ (decide (c.num ≤ 0) = false ∧ (mulE a c == 0) = true ∧ (mulE b c == 0) = true ∧ cmpV (mulF a c) (mulF b c) (cmpF (mulF a c) (mulF b c)) 0 = cmpF a b ∧ cmpV (mulF a c) (mulF b c) 0 1 = 0) ∨ (decide (c.num ≤ 0) = false ∧ (mulE a c == 0) = false) ∨ (decide (c.num ≤ 0) = false ∧ (mulE a c == 0) = true ∧ (mulE b c == 0) = false) := by
    by_cases h0 : c.num ≤ 0
    · exact .inl (decide_eq_true h0)
    · by_cases h1 : mulE a c = 0
      · by_cases h2 : mulE b c = 0
        · refine .inr (.inl ⟨decide_eq_false h0, by simpa using h1, by simpa using h2, ?_, ?_⟩)
          · unfold cmpV; rw [v3, v4, decide_eq_true h1, decide_eq_true h2, if_pos ⟨rfl, rfl⟩]; exact grow2 h1 h2 (by omega)
          · unfold cmpV; rw [v3, v4, decide_eq_true h1, decide_eq_true h2, if_pos ⟨rfl, rfl⟩]
        · exact .inr (.inr (.inr ⟨decide_eq_false h0, by simpa using h1, by simpa using h2⟩))
      · exact .inr (.inr (.inl ⟨decide_eq_false h0, by simpa using h1⟩))
  rw [ha] at V1
  rw [hb'] at V2
  rw [hc] at V3
  rcases D with ⟨d0, d1⟩ | ⟨d0, d1⟩ | ⟨d, d0, d1, d2⟩ <;> rcases G1 with ⟨g1, g2, j1, j2⟩ | g1 | ⟨g1, g2⟩ <;> rcases G2 with g3 | ⟨g3, g4, g5, j3, j4⟩ | ⟨g3, g4⟩ | ⟨g3, g4, g5⟩
  · exact grows000 a b c _ _ _ _ _ _ _ _ _ _ _ _ _ w ht V1 V2 V3 A1 A2 A3 A4 A5 A6 A7 A8 nb.1 nb.2 d0 d1 g1 g2 j1 j2 g3
  · exact grows001 a b c _ _ _ _ _ _ _ _ _ _ _ _ _ w ht V1 V2 V3 A1 A2 A3 A4 A5 A6 A7 A8 nb.1 nb.2 d0 d1 g1 g2 j1 j2 g3 g4 g5 j3 j4
  · exact grows002 a b c _ _ _ _ _ _ _ _ _ _ _ _ _ w ht V1 V2 V3 A1 A2 A3 A4 A5 A6 A7 A8 nb.1 nb.2 d0 d1 g1 g2 j1 j2 g3 g4
  · exact grows003 a b c _ _ _ _ _ _ _ _ _ _ _ _ _ w ht V1 V2 V3 A1 A2 A3 A4 A5 A6 A7 A8 nb.1 nb.2 d0 d1 g1 g2 j1 j2 g3 g4 g5
  · exact grows010 a b c _ _ _ _ _ _ _ _ _ _ _ _ _ w ht V1 V2 V3 A1 A2 A3 A4 A5 A6 A7 A8 nb.1 nb.2 d0 d1 g1 g3
  · exact grows011 a b c _ _ _ _ _ _ _ _ _ _ _ _ _ w ht V1 V2 V3 A1 A2 A3 A4 A5 A6 A7 A8 nb.1 nb.2 d0 d1 g1 g3 g4 g5 j3 j4
  · exact grows012 a b c _ _ _ _ _ _ _ _ _ _ _ _ _ w ht V1 V2 V3 A1 A2 A3 A4 A5 A6 A7 A8 nb.1 nb.2 d0 d1 g1 g3 g4
  · exact grows013 a b c _ _ _ _ _ _ _ _ _ _ _ _ _ w ht V1 V2 V3 A1 A2 A3 A4 A5 A6 A7 A8 nb.1 nb.2 d0 d1 g1 g3 g4 g5
  · exact grows020 a b c _ _ _ _ _ _ _ _ _ _ _ _ _ w ht V1 V2 V3 A1 A2 A3 A4 A5 A6 A7 A8 nb.1 nb.2 d0 d1 g1 g2 g3
  · exact grows021 a b c _ _ _ _ _ _ _ _ _ _ _ _ _ w ht V1 V2 V3 A1 A2 A3 A4 A5 A6 A7 A8 nb.1 nb.2 d0 d1 g1 g2 g3 g4 g5 j3 j4
  · exact grows022 a b c _ _ _ _ _ _ _ _ _ _ _ _ _ w ht V1 V2 V3 A1 A2 A3 A4 A5 A6 A7 A8 nb.1 nb.2 d0 d1 g1 g2 g3 g4
  · exact grows023 a b c _ _ _ _ _ _ _ _ _ _ _ _ _ w ht V1 V2 V3 A1 A2 A3 A4 A5 A6 A7 A8 nb.1 nb.2 d0 d1 g1 g2 g3 g4 g5
  · exact grows100 a b c _ _ _ _ _ _ _ _ _ _ _ _ _ w ht V1 V2 V3 A1 A2 A3 A4 A5 A6 A7 A8 nb.1 nb.2 d0 d1 g1 g2 j1 j2 g3
  · exact grows101 a b c _ _ _ _ _ _ _ _ _ _ _ _ _ w ht V1 V2 V3 A1 A2 A3 A4 A5 A6 A7 A8 nb.1 nb.2 d0 d1 g1 g2 j1 j2 g3 g4 g5 j3 j4
  · exact grows102 a b c _ _ _ _ _ _ _ _ _ _ _ _ _ w ht V1 V2 V3 A1 A2 A3 A4 A5 A6 A7 A8 nb.1 nb.2 d0 d1 g1 g2 j1 j2 g3 g4
  · exact grows103 a b c _ _ _ _ _ _ _ _ _ _ _ _ _ w ht V1 V2 V3 A1 A2 A3 A4 A5 A6 A7 A8 nb.1 nb.2 d0 d1 g1 g2 j1 j2 g3 g4 g5
  · exact grows110 a b c _ _ _ _ _ _ _ _ _ _ _ _ _ w ht V1 V2 V3 A1 A2 A3 A4 A5 A6 A7 A8 nb.1 nb.2 d0 d1 g1 g3
  · exact grows111 a b c _ _ _ _ _ _ _ _ _ _ _ _ _ w ht V1 V2 V3 A1 A2 A3 A4 A5 A6 A7 A8 nb.1 nb.2 d0 d1 g1 g3 g4 g5 j3 j4
  · exact grows112 a b c _ _ _ _ _ _ _ _ _ _ _ _ _ w ht V1 V2 V3 A1 A2 A3 A4 A5 A6 A7 A8 nb.1 nb.2 d0 d1 g1 g3 g4
  · exact grows113 a b c _ _ _ _ _ _ _ _ _ _ _ _ _ w ht V1 V2 V3 A1 A2 A3 A4 A5 A6 A7 A8 nb.1 nb.2 d0 d1 g1 g3 g4 g5
  · exact grows120 a b c _ _ _ _ _ _ _ _ _ _ _ _ _ w ht V1 V2 V3 A1 A2 A3 A4 A5 A6 A7 A8 nb.1 nb.2 d0 d1 g1 g2 g3
  · exact grows121 a b c _ _ _ _ _ _ _ _ _ _ _ _ _ w ht V1 V2 V3 A1 A2 A3 A4 A5 A6 A7 A8 nb.1 nb.2 d0 d1 g1 g2 g3 g4 g5 j3 j4
  · exact grows122 a b c _ _ _ _ _ _ _ _ _ _ _ _ _ w ht V1 V2 V3 A1 A2 A3 A4 A5 A6 A7 A8 nb.1 nb.2 d0 d1 g1 g2 g3 g4
  · exact grows123 a b c _ _ _ _ _ _ _ _ _ _ _ _ _ w ht V1 V2 V3 A1 A2 A3 A4 A5 A6 A7 A8 nb.1 nb.2 d0 d1 g1 g2 g3 g4 g5
  · exact grows200 a b c _ _ _ _ _ _ _ _ _ _ _ _ _ w ht V1 V2 V3 A1 A2 A3 A4 A5 A6 A7 A8 nb.1 nb.2 d d0 d1 d2 g1 g2 j1 j2 g3
  · exact grows201 a b c _ _ _ _ _ _ _ _ _ _ _ _ _ w ht V1 V2 V3 A1 A2 A3 A4 A5 A6 A7 A8 nb.1 nb.2 d d0 d1 d2 g1 g2 j1 j2 g3 g4 g5 j3 j4
  · exact grows202 a b c _ _ _ _ _ _ _ _ _ _ _ _ _ w ht V1 V2 V3 A1 A2 A3 A4 A5 A6 A7 A8 nb.1 nb.2 d d0 d1 d2 g1 g2 j1 j2 g3 g4
  · exact grows203 a b c _ _ _ _ _ _ _ _ _ _ _ _ _ w ht V1 V2 V3 A1 A2 A3 A4 A5 A6 A7 A8 nb.1 nb.2 d d0 d1 d2 g1 g2 j1 j2 g3 g4 g5
  · exact grows210 a b c _ _ _ _ _ _ _ _ _ _ _ _ _ w ht V1 V2 V3 A1 A2 A3 A4 A5 A6 A7 A8 nb.1 nb.2 d d0 d1 d2 g1 g3
  · exact grows211 a b c _ _ _ _ _ _ _ _ _ _ _ _ _ w ht V1 V2 V3 A1 A2 A3 A4 A5 A6 A7 A8 nb.1 nb.2 d d0 d1 d2 g1 g3 g4 g5 j3 j4
  · exact grows212 a b c _ _ _ _ _ _ _ _ _ _ _ _ _ w ht V1 V2 V3 A1 A2 A3 A4 A5 A6 A7 A8 nb.1 nb.2 d d0 d1 d2 g1 g3 g4
  · exact grows213 a b c _ _ _ _ _ _ _ _ _ _ _ _ _ w ht V1 V2 V3 A1 A2 A3 A4 A5 A6 A7 A8 nb.1 nb.2 d d0 d1 d2 g1 g3 g4 g5
  · exact grows220 a b c _ _ _ _ _ _ _ _ _ _ _ _ _ w ht V1 V2 V3 A1 A2 A3 A4 A5 A6 A7 A8 nb.1 nb.2 d d0 d1 d2 g1 g2 g3
  · exact grows221 a b c _ _ _ _ _ _ _ _ _ _ _ _ _ w ht V1 V2 V3 A1 A2 A3 A4 A5 A6 A7 A8 nb.1 nb.2 d d0 d1 d2 g1 g2 g3 g4 g5 j3 j4
  · exact grows222 a b c _ _ _ _ _ _ _ _ _ _ _ _ _ w ht V1 V2 V3 A1 A2 A3 A4 A5 A6 A7 A8 nb.1 nb.2 d d0 d1 d2 g1 g2 g3 g4
  · exact grows223 a b c _ _ _ _ _ _ _ _ _ _ _ _ _ w ht V1 V2 V3 A1 A2 A3 A4 A5 A6 A7 A8 nb.1 nb.2 d d0 d1 d2 g1 g2 g3 g4 g5
end Go.Proofs.YtbmckddjdkjplaaDoor
