/- The reference's Rate. -/
import Derived.Test.YtjnifgheipmanaaItRi
import Derived.Test.YtjnifgheipmanaaItAwk
import Derived.Test.YtjnifgheipmanaaRf3U
namespace Go.Proofs.Ytjnifgheipmanaa
open Go.RowKit

theorem cdv_cdiv {x y : Int} (h : 0 < y) : cdv x y = cdiv x y := by
  rw [cdv_pos h]
  unfold cdiv
  have e := Int.mul_ediv_add_emod (-x) y
  have m1 := Int.emod_nonneg (-x) (Int.ne_of_gt h)
  have m2 := Int.emod_lt_of_pos (-x) h
  generalize (-x) / y = q at *
  generalize (-x) % y = r at *
  symm
  refine ((Int.ediv_emod_unique h (q := -q) (r := y - 1 - r)).2 ⟨?_, by omega, by omega⟩).1
  have : y * -q = -(y * q) := Int.mul_neg ..
  omega
theorem rate_eq {T : Tab} (v : VT T) {x y : Int} (h : inT T x y) (hx : 0 < x) :
    fdv (rN T x y * 3600) (rD T x y * x) = nT T x y * 3600 / (dT T x y * x) ∧ cdv (rN T x y * 3600) (rD T x y * x) = cdiv (nT T x y * 3600) (dT T x y * x) := by
  have f := rf_frac v h
  have bd := nT_bd v h
  have p1 : 0 < rD T x y * x := Int.mul_pos f.2 hx
  have p2 : 0 < dT T x y * x := Int.mul_pos (by omega) hx
  have e : rN T x y * 3600 * (dT T x y * x) = nT T x y * 3600 * (rD T x y * x) := by
    have h2 := f.1
    generalize rN T x y = a at *
    generalize dT T x y = b at *
    generalize nT T x y = c at *
    generalize rD T x y = d at *
    have h3 : a * 3600 * (b * x) = a * b * (3600 * x) := by grind
    rw [h3, h2]; grind
  rw [fdv_pos p1, cdv_cdiv p1]
  exact quo_eq p1 p2 e
set_option maxRecDepth 100000 in
set_option maxHeartbeats 4000000 in
theorem rfrate_any (T : Tab) (a : TabA) (x y : Int) (w : World) (ht : TabSl w T a) (v : VT T) (h : inT T x y) :
    Calls Try.prog 17 #[T.val a, .int .i64 x, .int .i64 y] w (SpPost (nT T x y * 3600 / (dT T x y * x)) (cdiv (nT T x y * 3600) (dT T x y * x)) w) := by
  have X := ((Own.start w).alloc (T.cells a) 25).alloc #[.int .i64 0, .int .i64 0] 29
  simp only [World.size_alloc] at X
  have C := hide (fun W (hB : Below w.heap.size w W) => frac_any T a x y W (ht.below hB) v h)
  have bd := rN_bd v h
  obtain ⟨x1, x2⟩ := inL_iff.1 h.1
  have b0 := v.dB 0 (by have := v.d1; omega)
  have b1 := v.dB (T.ds.length - 1) (by have := v.d1; omega)
  have q := rate_eq v h (by omega)
  have r0 : 0 ≤ nT T x y * 3600 / (dT T x y * x) ∧ nT T x y * 3600 / (dT T x y * x) ≤ cdiv (nT T x y * 3600) (dT T x y * x) ∧ cdiv (nT T x y * 3600) (dT T x y * x) ≤ 4611686018427387904 := by
    have nb := nT_bd v h
    have p : 0 < dT T x y * x := Int.mul_pos (by omega) (by omega)
    have n0 : 0 ≤ nT T x y * 3600 := by omega
    have n1 : nT T x y * 3600 ≤ 4611686018427387903 * (dT T x y * x) := by
      have : dT T x y * 1 ≤ dT T x y * x := Int.mul_le_mul_of_nonneg_left (by omega) (by omega)
      omega
    unfold cdiv
    generalize dT T x y * x = d at *
    generalize nT T x y * 3600 = n at *
    refine ⟨Int.ediv_nonneg n0 (by omega), Int.ediv_le_ediv p (by omega), ?_⟩
    exact Int.ediv_le_of_le_mul p (by omega)
  have d1 : 1 ≤ rD T x y * x := Int.mul_pos (by omega) (by omega)
  have d2 : rD T x y * x ≤ 25920000000 * 2592000 := Int.mul_le_mul (by omega) (by omega) (by omega) (by omega)
  have FL := hide (fun W => n3floorof (rN T x y) 3600 (rD T x y * x) W (by omega) (by omega) (by omega) (by omega) (by rw [q.1]; exact decide_eq_true (by omega)))
  have CL := hide (fun W => n3ceilof (rN T x y) 3600 (rD T x y * x) W (by omega) (by omega) (by omega) (by omega) (by rw [q.2]; exact decide_eq_true (by omega)))
  rw [q.1] at FL
  rw [q.2] at CL
  clear ht v h q r0 x1 x2 b0 b1 bd
  generalize nT T x y * 3600 / (dT T x y * x) = lo at *
  generalize cdiv (nT T x y * 3600) (dT T x y * x) = hi at *
  generalize rN T x y = n at *
  generalize rD T x y = m at *
  obtain ⟨d, hd⟩ : ∃ d, d = m * x := ⟨_, rfl⟩
  rw [← hd] at FL CL d1 d2
  have s1 : IntKind.i64.wrap (m * x) = d := by rw [← hd]; exact IntWalk.i64_in _ (by omega)
  have s2 : wrap64 (m * x) = d := by rw [← hd]; exact IntWalk.wrap64_in _ (by omega)
  clear hd d1 d2
  have hr := X.r2
  go_enter Try.func17, Try.ntmps17
  go_wp2_with fail
  refine (C.out _ X.1).mono ?_
  rintro e w1 ⟨rfl, hb⟩
  replace X := X.to hb
  clear hb hr
  have hr := X.r2
  go_wp2_with fail
  refine (FL.out _).mono ?_
  rintro e w2 ⟨rfl, hb⟩
  replace X := X.to hb
  clear hb hr
  have hr := X.r2
  go_wp2_with fail
  refine (CL.out _).mono ?_
  rintro e w3 ⟨rfl, hb⟩
  replace X := X.to hb
  clear hb hr
  have hr := X.r2
  go_wp2
  exact bodyPost_ret (v := Sv lo hi) (by simp [results, Try.results17, hr, go_sem]) rfl (SpPost.mk rfl rfl (by have HX := X.1; have hz := HX.size; go_grown))
end Go.Proofs.Ytjnifgheipmanaa
