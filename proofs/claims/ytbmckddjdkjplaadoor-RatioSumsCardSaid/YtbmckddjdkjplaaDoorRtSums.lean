/- RatioSums: Add, Sub, Mul, and Div return what the reference says: for all fractions the law returns true. -/
import Derived.Test.YtbmckddjdkjplaaDoorRtAwake
import Derived.Test.YtbmckddjdkjplaaDoorRtRef2
namespace Go.Proofs.YtbmckddjdkjplaaDoor
open Go Go.RowKit

set_option maxRecDepth 100000 in
set_option maxHeartbeats 4000000 in
theorem sums_law (a b : Fr) (w : World) (ht : PowTab w) : Calls Tryd.prog 8 #[a.val, b.val] w (RetB (.bool true) w) := by
    have X := ((Own.start w).alloc #[.int .i64 a.num, .int .i64 a.den] 24).alloc #[.int .i64 b.num, .int .i64 b.den] 24
    simp only [World.size_alloc] at X
    have HT := hide (ht.below (X.1))
    clear ht
    have A1 := fun W => add_any a b W
    have A5 := fun W => radd_any a b W
    generalize addF a b = s1 at *
    generalize addE a b = e1 at *
    have A2 := fun W => sub_any a b W
    have A6 := fun W => rsub_any a b W
    generalize subF a b = s2 at *
    generalize subE a b = e2 at *
    have A3 := fun W => mul_any a b W
    have A7 := fun W => rmul_any a b W
    generalize mulF a b = s3 at *
    generalize mulE a b = e3 at *
    have A4 := fun W => div_any a b W
    have A8 := fun W => rdiv_any a b W
    generalize divF a b = s4 at *
    generalize divE a b = e4 at *
    go_enter Tryd.func8, Tryd.ntmps8
    have hr := X.r2
    go_wp2_with fail
    refine (awake_any _ HT.out).mono ?_
    rintro e w1 ⟨rfl, hb⟩
    replace X := X.to hb
    clear hb hr
    have hr := X.r2
    go_wp2_with fail
    refine (A1 _).mono ?_
    rintro e w2 ⟨rfl, hb⟩
    replace X := (X.to hb).alloc #[.int .i64 s1.num, .int .i64 s1.den] 24
    clear hb hr
    have hr := X.r3
    go_wp2_with fail
    refine (A2 _).mono ?_
    rintro e w3 ⟨rfl, hb⟩
    replace X := (X.to hb).alloc #[.int .i64 s2.num, .int .i64 s2.den] 24
    clear hb hr
    have hr := X.r4
    go_wp2_with fail
    refine (A3 _).mono ?_
    rintro e w4 ⟨rfl, hb⟩
    replace X := (X.to hb).alloc #[.int .i64 s3.num, .int .i64 s3.den] 24
    clear hb hr
    have hr := X.r5
    go_wp2_with fail
    refine (A4 _).mono ?_
    rintro e w5 ⟨rfl, hb⟩
    replace X := (X.to hb).alloc #[.int .i64 s4.num, .int .i64 s4.den] 24
    clear hb hr
    have hr := X.r6
    go_wp2_with fail
    refine (A5 _).mono ?_
    rintro e w6 ⟨rfl, hb⟩
    replace X := (X.to hb).alloc #[.int .i64 s1.num, .int .i64 s1.den] 24
    clear hb hr
    have hr := X.r7
    go_wp2_with fail
    refine (A6 _).mono ?_
    rintro e w7 ⟨rfl, hb⟩
    replace X := (X.to hb).alloc #[.int .i64 s2.num, .int .i64 s2.den] 24
    clear hb hr
    have hr := X.r8
    go_wp2_with fail
    refine (A7 _).mono ?_
    rintro e w8 ⟨rfl, hb⟩
    replace X := (X.to hb).alloc #[.int .i64 s3.num, .int .i64 s3.den] 24
    clear hb hr
    have hr := X.r9
    go_wp2_with fail
    refine (A8 _).mono ?_
    rintro e w9 ⟨rfl, hb⟩
    replace X := (X.to hb).alloc #[.int .i64 s4.num, .int .i64 s4.den] 24
    clear hb hr
    have hr := X.r10
    go_wp2
    go_ret
    exact ⟨rfl, by have HX := X.1; have hz := HX.size; go_grown⟩
end Go.Proofs.YtbmckddjdkjplaaDoor
