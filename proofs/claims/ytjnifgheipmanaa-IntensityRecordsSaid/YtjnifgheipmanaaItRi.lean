/- The reference's Depth and span. -/
import Derived.Test.YtjnifgheipmanaaItRh
namespace Go.Proofs.Ytjnifgheipmanaa
open Go.RowKit

def SpPost (lo hi : Int) (w : World) (e : Ending) (w' : World) : Prop := e = .returned (Sv lo hi) ∧ Below w.heap.size w w'
theorem SpPost.mk {lo hi lo' hi' : Int} {w w' : World} (h1 : lo = lo') (h2 : hi = hi') (hb : Below w.heap.size w w') : SpPost lo hi w (.returned (Sv lo' hi')) w' := by subst h1 h2; exact ⟨rfl, hb⟩
theorem rN_bd {T : Tab} (v : VT T) {x y : Int} (h : inT T x y) : 0 ≤ rN T x y ∧ rN T x y ≤ 4194304 * 25920000000 ∧ 0 < rD T x y ∧ rD T x y ≤ 25920000000 := by
  have dx := rfD_bd v.dA v.d1 h.1 v.dB
  have dy := rfD_bd v.pA v.p1 h.2 v.pB
  have bd := rfN_bd v.pA v.p1 h.2 (fun j hj => rfN_bd v.dA v.d1 h.1 (fun i hi => v.cB j i hj hi))
  have p : rD T x y ≤ 2592000 * 10000 := Int.mul_le_mul dx.2 dy.2 (by omega) (by omega)
  have e : 4194304 * rfD T.ds x * rfD T.ps y = 4194304 * rD T x y := by unfold rD; grind
  rw [e] at bd
  refine ⟨bd.1, ?_, (rf_frac v h).2, by omega⟩
  have := bd.2
  unfold rN
  omega
set_option maxRecDepth 100000 in
set_option maxHeartbeats 4000000 in
theorem rfdepth_any (T : Tab) (a : TabA) (x y : Int) (w : World) (ht : TabSl w T a) (v : VT T) (h : inT T x y) :
    Calls Try.prog 16 #[T.val a, .int .i64 x, .int .i64 y] w (SpPost (loT T x y) (hiT T x y) w) := by
  have X := ((Own.start w).alloc (T.cells a) 25).alloc #[.int .i64 0, .int .i64 0] 29
  simp only [World.size_alloc] at X
  have C := hide (fun W (hB : Below w.heap.size w W) => frac_any T a x y W (ht.below hB) v h)
  have bd := rN_bd v h
  have q := ref_depth v h
  have e2 : cdiv (rN T x y) (rD T x y) = (rN T x y + rD T x y - 1) / rD T x y := rfl
  rw [e2] at q
  clear e2 ht v h
  generalize rN T x y = n at *
  generalize rD T x y = d at *
  have t1 : n.tdiv d = n / d := Int.tdiv_eq_ediv_of_nonneg (by omega)
  have t2 : (n + d - 1).tdiv d = (n + d - 1) / d := Int.tdiv_eq_ediv_of_nonneg (by omega)
  have HQ1 := hide q.1
  have HQ2 := hide q.2
  have r1 : 0 ≤ n / d := Int.ediv_nonneg (by omega) (by omega)
  have r2 : n / d ≤ n := Int.ediv_le_self _ (by omega)
  have r3 : 0 ≤ (n + d - 1) / d := Int.ediv_nonneg (by omega) (by omega)
  have r4 : (n + d - 1) / d ≤ n + d - 1 := Int.ediv_le_self _ (by omega)
  have s1 := IntWalk.i64_in (n.tdiv d) (by omega)
  have s2 := IntWalk.i64_in ((n + d - 1).tdiv d) (by omega)
  have s1' := IntWalk.i64_in (n / d) (by omega)
  have s2' := IntWalk.i64_in ((n + d - 1) / d) (by omega)
  have s3 := IntWalk.i64_in (n + d) (by omega)
  have s4 := IntWalk.i64_in (n + d - 1) (by omega)
  have d0 : (d == 0) = false := by simp; omega
  have d1 : ¬ d = 0 := by omega
  clear q r1 r2 r3 r4
  replace t1 := hide t1
  replace t2 := hide t2
  have hr := X.r2
  go_enter Try.func16, Try.ntmps16
  go_wp2_with fail
  refine (C.out _ X.1).mono ?_
  rintro e w1 ⟨rfl, hb⟩
  replace X := X.to hb
  clear hb hr
  have hr := X.r2
  go_wp2
  go_region
  go_wp2
  exact bodyPost_ret (v := Sv (n / d) ((n + d - 1) / d)) (by simp [results, Try.results16, hr, t1.out, t2.out, go_sem]) rfl (SpPost.mk HQ1.out.symm HQ2.out.symm (by have HX := X.1; have hz := HX.size; go_grown))
def spLo (lo hi depth n first : Int) : Int := if n = first ∨ lo = depth ∧ hi = depth then n else n - 1
set_option maxHeartbeats 4000000 in
theorem rfspan_any (lo hi depth n first : Int) (w : World) (hn : 0 ≤ n) (hn' : n ≤ 2592000) :
    Calls Try.prog 44 #[Sv lo hi, .int .i64 depth, .int .i64 n, .int .i64 first] w (SpPost (spLo lo hi depth n first) n w) := by
  have X := ((Own.start w).alloc #[.int .i64 lo, .int .i64 hi] 29).alloc #[.int .i64 0, .int .i64 0] 29
  simp only [World.size_alloc] at X
  have t : n = first ∨ (n ≠ first ∧ lo ≠ depth) ∨ (n ≠ first ∧ lo = depth ∧ hi ≠ depth) ∨ (n ≠ first ∧ lo = depth ∧ hi = depth) := by omega
  have V := hide (show spLo lo hi depth n first = if n = first ∨ lo = depth ∧ hi = depth then n else n - 1 from rfl)
  have hr := X.r2
  rcases t with rfl | ⟨t1, t2⟩ | ⟨t1, rfl, t3⟩ | ⟨t1, rfl, rfl⟩
  · replace V : Hid _ := hide (V.out.trans (by simp : _ = n))
    go_enter Try.func44, Try.ntmps44
    go_wp2
    exact bodyPost_ret (v := Sv n n) (by simp [results, Try.results44, go_sem]) rfl (SpPost.mk V.out rfl (by have HX := X.1; have hz := HX.size; go_grown))
  · have b1 : (n == first) = false := by simpa using t1
    have b2 : (lo == depth) = false := by simpa using t2
    replace V : Hid _ := hide (V.out.trans (by simp [t1, t2] : _ = n - 1))
    clear t1 t2
    go_enter Try.func44, Try.ntmps44
    go_wp2
    exact bodyPost_ret (v := Sv (n - 1) n) (by simp [results, Try.results44, go_sem]) rfl (SpPost.mk V.out rfl (by have HX := X.1; have hz := HX.size; go_grown))
  · have b1 : (n == first) = false := by simpa using t1
    have b3 : (hi == lo) = false := by simpa using t3
    replace V : Hid _ := hide (V.out.trans (by simp [t1, t3] : _ = n - 1))
    clear t1 t3
    go_enter Try.func44, Try.ntmps44
    go_wp2
    exact bodyPost_ret (v := Sv (n - 1) n) (by simp [results, Try.results44, go_sem]) rfl (SpPost.mk V.out rfl (by have HX := X.1; have hz := HX.size; go_grown))
  · have b1 : (n == first) = false := by simpa using t1
    replace V : Hid _ := hide (V.out.trans (by simp : _ = n))
    clear t1
    go_enter Try.func44, Try.ntmps44
    go_wp2
    exact bodyPost_ret (v := Sv n n) (by simp [results, Try.results44, go_sem]) rfl (SpPost.mk V.out rfl (by have HX := X.1; have hz := HX.size; go_grown))
end Go.Proofs.Ytjnifgheipmanaa
