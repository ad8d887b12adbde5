/- RatioRing: the law's two closures, and facts on its pairs. -/
import Derived.Test.YtbmckddjdkjplaaDoorRtAwake
namespace Go.Proofs.YtbmckddjdkjplaaDoor
open Go Go.RowKit

set_option maxRecDepth 100000 in
set_option maxHeartbeats 1000000 in
theorem ringadd_any (a b : Fr) (w : World) : Calls Tryd.prog 27 #[a.val, b.val] w (RetB (addF a b).val w) := by
  have X := (((Own.start w).alloc #[.int .i64 a.num, .int .i64 a.den] 24).alloc #[.int .i64 b.num, .int .i64 b.den] 24).alloc #[.int .i64 0, .int .i64 0] 24
  simp only [World.size_alloc] at X
  have C := add_any a b
  generalize addF a b = s at *
  generalize addE a b = er at *
  have hr := X.r3
  go_enter Tryd.func27, Tryd.ntmps27
  go_wp2_with fail
  refine (C _).mono ?_
  rintro e w1 ⟨rfl, hb⟩
  replace X := (X.to hb).alloc #[.int .i64 s.num, .int .i64 s.den] 24
  clear hb hr
  have hr := X.r4
  go_wp2
  exact bodyPost_ret (v := s.val) (by simp [results, Tryd.results27, hr, go_sem]) rfl ⟨rfl, by have HX := X.1; have hz := HX.size; go_grown⟩
set_option maxRecDepth 100000 in
set_option maxHeartbeats 1000000 in
theorem ringmul_any (a b : Fr) (w : World) : Calls Tryd.prog 29 #[a.val, b.val] w (RetB (mulF a b).val w) := by
  have X := (((Own.start w).alloc #[.int .i64 a.num, .int .i64 a.den] 24).alloc #[.int .i64 b.num, .int .i64 b.den] 24).alloc #[.int .i64 0, .int .i64 0] 24
  simp only [World.size_alloc] at X
  have C := mul_any a b
  generalize mulF a b = s at *
  generalize mulE a b = er at *
  have hr := X.r3
  go_enter Tryd.func29, Tryd.ntmps29
  go_wp2_with fail
  refine (C _).mono ?_
  rintro e w1 ⟨rfl, hb⟩
  replace X := (X.to hb).alloc #[.int .i64 s.num, .int .i64 s.den] 24
  clear hb hr
  have hr := X.r4
  go_wp2
  exact bodyPost_ret (v := s.val) (by simp [results, Tryd.results29, hr, go_sem]) rfl ⟨rfl, by have HX := X.1; have hz := HX.size; go_grown⟩
/-- a pair of the law: one of them is zero, or both are equal -/
def PairOk (x y : Fr) : Prop := x = Fr.zero ∨ ((x.den == 0) = false ∧ y = Fr.zero) ∨ ((x.den == 0) = false ∧ x = y)
theorem pair_ok {x y : Fr} (hx : x ≠ Fr.zero → 0 < x.den) (h : x ≠ Fr.zero → y ≠ Fr.zero → x = y) : PairOk x y := by
  by_cases h1 : x = Fr.zero
  · exact .inl h1
  · have d : (x.den == 0) = false := by have := hx h1; simp; omega
    by_cases h2 : y = Fr.zero
    · exact .inr (.inl ⟨d, h2⟩)
    · exact .inr (.inr ⟨d, h h1 h2⟩)
theorem op2_den {a b : Fr} {n d : Int} (h : op2F a b n d ≠ Fr.zero) : 0 < (op2F a b n d).den := (op2_spec (nz_ok h)).2.2.2.2
end Go.Proofs.YtbmckddjdkjplaaDoor
