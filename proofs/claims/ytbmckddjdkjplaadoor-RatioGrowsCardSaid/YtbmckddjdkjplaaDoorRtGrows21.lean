/- RatioGrows: adding, and multiplying by a positive fraction, keep the order: the walk, way 21. -/
import Derived.Test.YtbmckddjdkjplaaDoorRtAwake
namespace Go.Proofs.YtbmckddjdkjplaaDoor
open Go Go.RowKit

set_option maxRecDepth 100000 in
set_option maxHeartbeats 16000000 in
theorem grows210 (a b c s1 s2 s3 s4 : Fr) (n k1 i1 k2 i2 e1 e2 e3 e4 : Int) (w : World) (ht : PowTab w)
    (V1 : ∀ W, Calls Tryd.prog 16 #[a.val] W (RetB (.bool true) W)) (V2 : ∀ W, Calls Tryd.prog 16 #[b.val] W (RetB (.bool true) W)) (V3 : ∀ W, Calls Tryd.prog 16 #[c.val] W (RetB (.bool true) W))
    (A1 : ∀ W, Calls Tryd.prog 21 #[a.val, b.val] W (RetIE n 0 W)) (A2 : ∀ W, Calls Tryd.prog 21 #[b.val, a.val] W (RetIE (-n) 0 W))
    (A3 : ∀ W, Calls Tryd.prog 28 #[a.val, c.val] W (RetFE s1 e1 W)) (A4 : ∀ W, Calls Tryd.prog 28 #[b.val, c.val] W (RetFE s2 e2 W)) (A5 : ∀ W, Calls Tryd.prog 21 #[s1.val, s2.val] W (RetIE k1 i1 W))
    (A6 : ∀ W, Calls Tryd.prog 30 #[a.val, c.val] W (RetFE s3 e3 W)) (A7 : ∀ W, Calls Tryd.prog 30 #[b.val, c.val] W (RetFE s4 e4 W)) (A8 : ∀ W, Calls Tryd.prog 21 #[s3.val, s4.val] W (RetIE k2 i2 W))
    (nb1 : -1 ≤ n) (nb2 : n ≤ 1)
    (d : Int) (d0 : b = ⟨a.num, d⟩) (d1 : (a.den == d) = false) (d2 : (n == 0) = false) (g1 : (e1 == 0) = false) (g3 : decide (c.num ≤ 0) = true) : Calls Tryd.prog 10 #[a.val, b.val, c.val] w (RetB (.bool true) w) := by
  have X := (((Own.start w).alloc #[.int .i64 a.num, .int .i64 a.den] 24).alloc #[.int .i64 b.num, .int .i64 b.den] 24).alloc #[.int .i64 c.num, .int .i64 c.den] 24
  simp only [World.size_alloc] at X
  have HT := hide (ht.below (X.1))
  clear ht
  skip
  skip
  subst d0
  skip
  skip
  have N1 : ∀ z : Int, (z == z) = true := fun z => by simp
  have V1 := hide V1
  have V2 := hide V2
  have V3 := hide V3
  have A1 := hide A1
  have A2 := hide A2
  have A3 := hide A3
  have A4 := hide A4
  have A5 := hide A5
  have A6 := hide A6
  have A7 := hide A7
  have A8 := hide A8
  clear N1
  go_enter Tryd.func10, Tryd.ntmps10
  have hr := X.r3
  go_wp2_with fail
  refine (awake_any _ HT.out).mono ?_
  rintro e w1 ⟨rfl, hb⟩
  replace X := X.to hb
  clear hb hr
  have hr := X.r3
  go_wp2_with fail
  refine (V1.out _).mono ?_
  rintro e w2 ⟨rfl, hb⟩
  replace X := X.to hb
  clear hb hr
  have hr := X.r3
  go_wp2_with fail
  refine (V2.out _).mono ?_
  rintro e w3 ⟨rfl, hb⟩
  replace X := X.to hb
  clear hb hr
  have hr := X.r3
  go_wp2_with fail
  refine (V3.out _).mono ?_
  rintro e w4 ⟨rfl, hb⟩
  replace X := X.to hb
  clear hb hr
  have hr := X.r3
  go_wp2_with fail
  refine (A1.out _).mono ?_
  rintro e w5 ⟨rfl, hb⟩
  replace X := X.to hb
  clear hb hr
  have hr := X.r3
  go_wp2_with fail
  refine (A2.out _).mono ?_
  rintro e w6 ⟨rfl, hb⟩
  replace X := X.to hb
  clear hb hr
  have hr := X.r3
  go_wp2_with fail
  refine (A3.out _).mono ?_
  rintro e w7 ⟨rfl, hb⟩
  have q1 := (X.to hb).r3.1.2.2
  replace X := (X.to hb).alloc #[.int .i64 s1.num, .int .i64 s1.den] 24
  clear hb hr
  have hr := X.r4
  go_wp2_with fail
  refine (A4.out _).mono ?_
  rintro e w8 ⟨rfl, hb⟩
  have q2 := (X.to hb).r4.1.2.2
  replace X := (X.to hb).alloc #[.int .i64 s2.num, .int .i64 s2.den] 24
  clear hb hr
  have hr := X.r5
  go_wp2_with fail
  refine (A5.out _).mono ?_
  rintro e w9 ⟨rfl, hb⟩
  replace X := X.to hb
  clear hb hr
  have hr := X.r5
  go_wp2_with fail
  refine (A6.out _).mono ?_
  rintro e u1 ⟨rfl, hb⟩
  have hr0 := (X.to hb).r5
  replace X := (((X.to hb).swap.set0 (by omega) (by simp; omega) 0 (.int .i64 s3.num)).set0 (by omega) (by simp; omega) 1 (.int .i64 s3.den)).swap
  clear hb hr
  have hr := X.r5
  go_wp2_with fail
  refine (A7.out _).mono ?_
  rintro e u2 ⟨rfl, hb⟩
  clear hr0
  have hr0 := (X.to hb).r5
  replace X := ((X.to hb).set0 (by omega) (by simp; omega) 0 (.int .i64 s4.num)).set0 (by omega) (by simp; omega) 1 (.int .i64 s4.den)
  clear hb hr
  have hr := X.r5
  go_wp2_with fail
  refine (A8.out _).mono ?_
  rintro e u3 ⟨rfl, hb⟩
  replace X := X.to hb
  clear hb hr hr0
  have hr := X.r5
  go_wp2
  go_ret
  exact ⟨rfl, by have HX := X.1; have hz := HX.size; go_grown⟩
set_option maxRecDepth 100000 in
set_option maxHeartbeats 16000000 in
theorem grows211 (a b c s1 s2 s3 s4 : Fr) (n k1 i1 k2 i2 e1 e2 e3 e4 : Int) (w : World) (ht : PowTab w)
    (V1 : ∀ W, Calls Tryd.prog 16 #[a.val] W (RetB (.bool true) W)) (V2 : ∀ W, Calls Tryd.prog 16 #[b.val] W (RetB (.bool true) W)) (V3 : ∀ W, Calls Tryd.prog 16 #[c.val] W (RetB (.bool true) W))
    (A1 : ∀ W, Calls Tryd.prog 21 #[a.val, b.val] W (RetIE n 0 W)) (A2 : ∀ W, Calls Tryd.prog 21 #[b.val, a.val] W (RetIE (-n) 0 W))
    (A3 : ∀ W, Calls Tryd.prog 28 #[a.val, c.val] W (RetFE s1 e1 W)) (A4 : ∀ W, Calls Tryd.prog 28 #[b.val, c.val] W (RetFE s2 e2 W)) (A5 : ∀ W, Calls Tryd.prog 21 #[s1.val, s2.val] W (RetIE k1 i1 W))
    (A6 : ∀ W, Calls Tryd.prog 30 #[a.val, c.val] W (RetFE s3 e3 W)) (A7 : ∀ W, Calls Tryd.prog 30 #[b.val, c.val] W (RetFE s4 e4 W)) (A8 : ∀ W, Calls Tryd.prog 21 #[s3.val, s4.val] W (RetIE k2 i2 W))
    (nb1 : -1 ≤ n) (nb2 : n ≤ 1)
    (d : Int) (d0 : b = ⟨a.num, d⟩) (d1 : (a.den == d) = false) (d2 : (n == 0) = false) (g1 : (e1 == 0) = false) (g3 : decide (c.num ≤ 0) = false) (g4 : (e3 == 0) = true) (g5 : (e4 == 0) = true) (j3 : k2 = n) (j4 : i2 = 0) : Calls Tryd.prog 10 #[a.val, b.val, c.val] w (RetB (.bool true) w) := by
  have X := (((Own.start w).alloc #[.int .i64 a.num, .int .i64 a.den] 24).alloc #[.int .i64 b.num, .int .i64 b.den] 24).alloc #[.int .i64 c.num, .int .i64 c.den] 24
  simp only [World.size_alloc] at X
  have HT := hide (ht.below (X.1))
  clear ht
  skip
  subst j3 j4
  subst d0
  have g4n : (e3 != 0) = false := by simp only [bne, g4]; rfl
  have g5n : (e4 != 0) = false := by simp only [bne, g5]; rfl
  have N1 : ∀ z : Int, (z == z) = true := fun z => by simp
  have V1 := hide V1
  have V2 := hide V2
  have V3 := hide V3
  have A1 := hide A1
  have A2 := hide A2
  have A3 := hide A3
  have A4 := hide A4
  have A5 := hide A5
  have A6 := hide A6
  have A7 := hide A7
  have A8 := hide A8
  clear N1
  go_enter Tryd.func10, Tryd.ntmps10
  have hr := X.r3
  go_wp2_with fail
  refine (awake_any _ HT.out).mono ?_
  rintro e w1 ⟨rfl, hb⟩
  replace X := X.to hb
  clear hb hr
  have hr := X.r3
  go_wp2_with fail
  refine (V1.out _).mono ?_
  rintro e w2 ⟨rfl, hb⟩
  replace X := X.to hb
  clear hb hr
  have hr := X.r3
  go_wp2_with fail
  refine (V2.out _).mono ?_
  rintro e w3 ⟨rfl, hb⟩
  replace X := X.to hb
  clear hb hr
  have hr := X.r3
  go_wp2_with fail
  refine (V3.out _).mono ?_
  rintro e w4 ⟨rfl, hb⟩
  replace X := X.to hb
  clear hb hr
  have hr := X.r3
  go_wp2_with fail
  refine (A1.out _).mono ?_
  rintro e w5 ⟨rfl, hb⟩
  replace X := X.to hb
  clear hb hr
  have hr := X.r3
  go_wp2_with fail
  refine (A2.out _).mono ?_
  rintro e w6 ⟨rfl, hb⟩
  replace X := X.to hb
  clear hb hr
  have hr := X.r3
  go_wp2_with fail
  refine (A3.out _).mono ?_
  rintro e w7 ⟨rfl, hb⟩
  have q1 := (X.to hb).r3.1.2.2
  replace X := (X.to hb).alloc #[.int .i64 s1.num, .int .i64 s1.den] 24
  clear hb hr
  have hr := X.r4
  go_wp2_with fail
  refine (A4.out _).mono ?_
  rintro e w8 ⟨rfl, hb⟩
  have q2 := (X.to hb).r4.1.2.2
  replace X := (X.to hb).alloc #[.int .i64 s2.num, .int .i64 s2.den] 24
  clear hb hr
  have hr := X.r5
  go_wp2_with fail
  refine (A5.out _).mono ?_
  rintro e w9 ⟨rfl, hb⟩
  replace X := X.to hb
  clear hb hr
  have hr := X.r5
  go_wp2_with fail
  refine (A6.out _).mono ?_
  rintro e u1 ⟨rfl, hb⟩
  have hr0 := (X.to hb).r5
  replace X := (((X.to hb).swap.set0 (by omega) (by simp; omega) 0 (.int .i64 s3.num)).set0 (by omega) (by simp; omega) 1 (.int .i64 s3.den)).swap
  clear hb hr
  have hr := X.r5
  go_wp2_with fail
  refine (A7.out _).mono ?_
  rintro e u2 ⟨rfl, hb⟩
  clear hr0
  have hr0 := (X.to hb).r5
  replace X := ((X.to hb).set0 (by omega) (by simp; omega) 0 (.int .i64 s4.num)).set0 (by omega) (by simp; omega) 1 (.int .i64 s4.den)
  clear hb hr
  have hr := X.r5
  go_wp2_with fail
  refine (A8.out _).mono ?_
  rintro e u3 ⟨rfl, hb⟩
  replace X := X.to hb
  clear hb hr hr0
  have hr := X.r5
  go_wp2
  go_ret
  exact ⟨rfl, by have HX := X.1; have hz := HX.size; go_grown⟩
set_option maxRecDepth 100000 in
set_option maxHeartbeats 16000000 in
theorem grows212 (a b c s1 s2 s3 s4 : Fr) (n k1 i1 k2 i2 e1 e2 e3 e4 : Int) (w : World) (ht : PowTab w)
    (V1 : ∀ W, Calls Tryd.prog 16 #[a.val] W (RetB (.bool true) W)) (V2 : ∀ W, Calls Tryd.prog 16 #[b.val] W (RetB (.bool true) W)) (V3 : ∀ W, Calls Tryd.prog 16 #[c.val] W (RetB (.bool true) W))
    (A1 : ∀ W, Calls Tryd.prog 21 #[a.val, b.val] W (RetIE n 0 W)) (A2 : ∀ W, Calls Tryd.prog 21 #[b.val, a.val] W (RetIE (-n) 0 W))
    (A3 : ∀ W, Calls Tryd.prog 28 #[a.val, c.val] W (RetFE s1 e1 W)) (A4 : ∀ W, Calls Tryd.prog 28 #[b.val, c.val] W (RetFE s2 e2 W)) (A5 : ∀ W, Calls Tryd.prog 21 #[s1.val, s2.val] W (RetIE k1 i1 W))
    (A6 : ∀ W, Calls Tryd.prog 30 #[a.val, c.val] W (RetFE s3 e3 W)) (A7 : ∀ W, Calls Tryd.prog 30 #[b.val, c.val] W (RetFE s4 e4 W)) (A8 : ∀ W, Calls Tryd.prog 21 #[s3.val, s4.val] W (RetIE k2 i2 W))
    (nb1 : -1 ≤ n) (nb2 : n ≤ 1)
    (d : Int) (d0 : b = ⟨a.num, d⟩) (d1 : (a.den == d) = false) (d2 : (n == 0) = false) (g1 : (e1 == 0) = false) (g3 : decide (c.num ≤ 0) = false) (g4 : (e3 == 0) = false) : Calls Tryd.prog 10 #[a.val, b.val, c.val] w (RetB (.bool true) w) := by
  have X := (((Own.start w).alloc #[.int .i64 a.num, .int .i64 a.den] 24).alloc #[.int .i64 b.num, .int .i64 b.den] 24).alloc #[.int .i64 c.num, .int .i64 c.den] 24
  simp only [World.size_alloc] at X
  have HT := hide (ht.below (X.1))
  clear ht
  skip
  skip
  subst d0
  have g4n : (e3 != 0) = true := by simp only [bne, g4]; rfl
  skip
  have N1 : ∀ z : Int, (z == z) = true := fun z => by simp
  have V1 := hide V1
  have V2 := hide V2
  have V3 := hide V3
  have A1 := hide A1
  have A2 := hide A2
  have A3 := hide A3
  have A4 := hide A4
  have A5 := hide A5
  have A6 := hide A6
  have A7 := hide A7
  have A8 := hide A8
  clear N1
  go_enter Tryd.func10, Tryd.ntmps10
  have hr := X.r3
  go_wp2_with fail
  refine (awake_any _ HT.out).mono ?_
  rintro e w1 ⟨rfl, hb⟩
  replace X := X.to hb
  clear hb hr
  have hr := X.r3
  go_wp2_with fail
  refine (V1.out _).mono ?_
  rintro e w2 ⟨rfl, hb⟩
  replace X := X.to hb
  clear hb hr
  have hr := X.r3
  go_wp2_with fail
  refine (V2.out _).mono ?_
  rintro e w3 ⟨rfl, hb⟩
  replace X := X.to hb
  clear hb hr
  have hr := X.r3
  go_wp2_with fail
  refine (V3.out _).mono ?_
  rintro e w4 ⟨rfl, hb⟩
  replace X := X.to hb
  clear hb hr
  have hr := X.r3
  go_wp2_with fail
  refine (A1.out _).mono ?_
  rintro e w5 ⟨rfl, hb⟩
  replace X := X.to hb
  clear hb hr
  have hr := X.r3
  go_wp2_with fail
  refine (A2.out _).mono ?_
  rintro e w6 ⟨rfl, hb⟩
  replace X := X.to hb
  clear hb hr
  have hr := X.r3
  go_wp2_with fail
  refine (A3.out _).mono ?_
  rintro e w7 ⟨rfl, hb⟩
  have q1 := (X.to hb).r3.1.2.2
  replace X := (X.to hb).alloc #[.int .i64 s1.num, .int .i64 s1.den] 24
  clear hb hr
  have hr := X.r4
  go_wp2_with fail
  refine (A4.out _).mono ?_
  rintro e w8 ⟨rfl, hb⟩
  have q2 := (X.to hb).r4.1.2.2
  replace X := (X.to hb).alloc #[.int .i64 s2.num, .int .i64 s2.den] 24
  clear hb hr
  have hr := X.r5
  go_wp2_with fail
  refine (A5.out _).mono ?_
  rintro e w9 ⟨rfl, hb⟩
  replace X := X.to hb
  clear hb hr
  have hr := X.r5
  go_wp2_with fail
  refine (A6.out _).mono ?_
  rintro e u1 ⟨rfl, hb⟩
  have hr0 := (X.to hb).r5
  replace X := (((X.to hb).swap.set0 (by omega) (by simp; omega) 0 (.int .i64 s3.num)).set0 (by omega) (by simp; omega) 1 (.int .i64 s3.den)).swap
  clear hb hr
  have hr := X.r5
  go_wp2_with fail
  refine (A7.out _).mono ?_
  rintro e u2 ⟨rfl, hb⟩
  clear hr0
  have hr0 := (X.to hb).r5
  replace X := ((X.to hb).set0 (by omega) (by simp; omega) 0 (.int .i64 s4.num)).set0 (by omega) (by simp; omega) 1 (.int .i64 s4.den)
  clear hb hr
  have hr := X.r5
  go_wp2_with fail
  refine (A8.out _).mono ?_
  rintro e u3 ⟨rfl, hb⟩
  replace X := X.to hb
  clear hb hr hr0
  have hr := X.r5
  go_wp2
  go_ret
  exact ⟨rfl, by have HX := X.1; have hz := HX.size; go_grown⟩
set_option maxRecDepth 100000 in
set_option maxHeartbeats 16000000 in
theorem grows213 (a b c s1 s2 s3 s4 : Fr) (n k1 i1 k2 i2 e1 e2 e3 e4 : Int) (w : World) (ht : PowTab w)
    (V1 : ∀ W, Calls Tryd.prog 16 #[a.val] W (RetB (.bool true) W)) (V2 : ∀ W, Calls Tryd.prog 16 #[b.val] W (RetB (.bool true) W)) (V3 : ∀ W, Calls Tryd.prog 16 #[c.val] W (RetB (.bool true) W))
    (A1 : ∀ W, Calls Tryd.prog 21 #[a.val, b.val] W (RetIE n 0 W)) (A2 : ∀ W, Calls Tryd.prog 21 #[b.val, a.val] W (RetIE (-n) 0 W))
    (A3 : ∀ W, Calls Tryd.prog 28 #[a.val, c.val] W (RetFE s1 e1 W)) (A4 : ∀ W, Calls Tryd.prog 28 #[b.val, c.val] W (RetFE s2 e2 W)) (A5 : ∀ W, Calls Tryd.prog 21 #[s1.val, s2.val] W (RetIE k1 i1 W))
    (A6 : ∀ W, Calls Tryd.prog 30 #[a.val, c.val] W (RetFE s3 e3 W)) (A7 : ∀ W, Calls Tryd.prog 30 #[b.val, c.val] W (RetFE s4 e4 W)) (A8 : ∀ W, Calls Tryd.prog 21 #[s3.val, s4.val] W (RetIE k2 i2 W))
    (nb1 : -1 ≤ n) (nb2 : n ≤ 1)
    (d : Int) (d0 : b = ⟨a.num, d⟩) (d1 : (a.den == d) = false) (d2 : (n == 0) = false) (g1 : (e1 == 0) = false) (g3 : decide (c.num ≤ 0) = false) (g4 : (e3 == 0) = true) (g5 : (e4 == 0) = false) : Calls Tryd.prog 10 #[a.val, b.val, c.val] w (RetB (.bool true) w) := by
  have X := (((Own.start w).alloc #[.int .i64 a.num, .int .i64 a.den] 24).alloc #[.int .i64 b.num, .int .i64 b.den] 24).alloc #[.int .i64 c.num, .int .i64 c.den] 24
  simp only [World.size_alloc] at X
  have HT := hide (ht.below (X.1))
  clear ht
  skip
  skip
  subst d0
  have g4n : (e3 != 0) = false := by simp only [bne, g4]; rfl
  have g5n : (e4 != 0) = true := by simp only [bne, g5]; rfl
  have N1 : ∀ z : Int, (z == z) = true := fun z => by simp
  have V1 := hide V1
  have V2 := hide V2
  have V3 := hide V3
  have A1 := hide A1
  have A2 := hide A2
  have A3 := hide A3
  have A4 := hide A4
  have A5 := hide A5
  have A6 := hide A6
  have A7 := hide A7
  have A8 := hide A8
  clear N1
  go_enter Tryd.func10, Tryd.ntmps10
  have hr := X.r3
  go_wp2_with fail
  refine (awake_any _ HT.out).mono ?_
  rintro e w1 ⟨rfl, hb⟩
  replace X := X.to hb
  clear hb hr
  have hr := X.r3
  go_wp2_with fail
  refine (V1.out _).mono ?_
  rintro e w2 ⟨rfl, hb⟩
  replace X := X.to hb
  clear hb hr
  have hr := X.r3
  go_wp2_with fail
  refine (V2.out _).mono ?_
  rintro e w3 ⟨rfl, hb⟩
  replace X := X.to hb
  clear hb hr
  have hr := X.r3
  go_wp2_with fail
  refine (V3.out _).mono ?_
  rintro e w4 ⟨rfl, hb⟩
  replace X := X.to hb
  clear hb hr
  have hr := X.r3
  go_wp2_with fail
  refine (A1.out _).mono ?_
  rintro e w5 ⟨rfl, hb⟩
  replace X := X.to hb
  clear hb hr
  have hr := X.r3
  go_wp2_with fail
  refine (A2.out _).mono ?_
  rintro e w6 ⟨rfl, hb⟩
  replace X := X.to hb
  clear hb hr
  have hr := X.r3
  go_wp2_with fail
  refine (A3.out _).mono ?_
  rintro e w7 ⟨rfl, hb⟩
  have q1 := (X.to hb).r3.1.2.2
  replace X := (X.to hb).alloc #[.int .i64 s1.num, .int .i64 s1.den] 24
  clear hb hr
  have hr := X.r4
  go_wp2_with fail
  refine (A4.out _).mono ?_
  rintro e w8 ⟨rfl, hb⟩
  have q2 := (X.to hb).r4.1.2.2
  replace X := (X.to hb).alloc #[.int .i64 s2.num, .int .i64 s2.den] 24
  clear hb hr
  have hr := X.r5
  go_wp2_with fail
  refine (A5.out _).mono ?_
  rintro e w9 ⟨rfl, hb⟩
  replace X := X.to hb
  clear hb hr
  have hr := X.r5
  go_wp2_with fail
  refine (A6.out _).mono ?_
  rintro e u1 ⟨rfl, hb⟩
  have hr0 := (X.to hb).r5
  replace X := (((X.to hb).swap.set0 (by omega) (by simp; omega) 0 (.int .i64 s3.num)).set0 (by omega) (by simp; omega) 1 (.int .i64 s3.den)).swap
  clear hb hr
  have hr := X.r5
  go_wp2_with fail
  refine (A7.out _).mono ?_
  rintro e u2 ⟨rfl, hb⟩
  clear hr0
  have hr0 := (X.to hb).r5
  replace X := ((X.to hb).set0 (by omega) (by simp; omega) 0 (.int .i64 s4.num)).set0 (by omega) (by simp; omega) 1 (.int .i64 s4.den)
  clear hb hr
  have hr := X.r5
  go_wp2_with fail
  refine (A8.out _).mono ?_
  rintro e u3 ⟨rfl, hb⟩
  replace X := X.to hb
  clear hb hr hr0
  have hr := X.r5
  go_wp2
  go_ret
  exact ⟨rfl, by have HX := X.1; have hz := HX.size; go_grown⟩
end Go.Proofs.YtbmckddjdkjplaaDoor
