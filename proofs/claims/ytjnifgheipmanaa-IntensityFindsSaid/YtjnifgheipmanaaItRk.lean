/- The reference's Period. -/
import Derived.Test.YtjnifgheipmanaaItRj
namespace Go.Proofs.Ytjnifgheipmanaa
open Go.RowKit

set_option maxRecDepth 100000 in
set_option maxHeartbeats 8000000 in
theorem rfper_any (T : Tab) (a : TabA) (x depth : Int) (w : World) (ht : TabSl w T a) (v : VT T) (hy : inL T.ds x = true) :
    Calls Try.prog 21 #[T.val a, .int .i64 x, .int .i64 depth] w (RF (T.ps.getD 0 0) (T.ps.getD (T.ps.length - 1) 0) (T.ps.getD 0 0) depth (fun m => loT T x m) (fun m => hiT T x m) w) := by
  have X := ((Own.start w).alloc (T.cells a) 25).alloc #[.int .i64 0, .int .i64 0] 29
  simp only [World.size_alloc] at X
  have C := hide (fun y W (hB : Below w.heap.size w W) (hx : inL T.ps y = true) => rfdepth_any T a x y W (ht.below hB) v ⟨hy, hx⟩)
  have IN := hide (fun x (h1 : T.ps.getD 0 0 ≤ x) (h2 : x ≤ T.ps.getD (T.ps.length - 1) 0) => (inL_iff (l := T.ps) (x := x)).2 ⟨h1, h2⟩)
  obtain ⟨A1, A2, A3, k1, k2, k3⟩ := a
  obtain ⟨b, off, e1, hbl, hat⟩ := ht.2.1.at_ (by have := v.p1; omega)
  simp only at e1
  subst e1
  have d1 := v.p1
  have d2 := v.p2
  have p0 := v.pB 0 (by omega)
  have p1 := v.pB (T.ps.length - 1) (by omega)
  have pq : T.ps.getD 0 0 ≤ T.ps.getD (T.ps.length - 1) 0 := v.pA.le (Nat.zero_le _) (by omega)
  have c0 := (X.1.cell (p := ⟨b, off + 0, none⟩) hbl).trans (hat 0 (by omega))
  have c1 := (X.1.cell (p := ⟨b, off + (T.ps.length - 1), none⟩) hbl).trans (hat (T.ps.length - 1) (by omega))
  rw [Nat.add_zero] at c0
  clear hat ht v hy
  generalize T.ps.getD 0 0 = p at *
  generalize T.ps.getD (T.ps.length - 1) 0 = q at *
  have z1 : IntKind.i64.wrap ((T.ps.length : Int) - 1) = ((T.ps.length - 1 : Nat) : Int) := (IntWalk.i64_in ((T.ps.length : Int) - 1) (by omega)).trans (by omega)
  have z2 : ((T.ps.length - 1 : Nat) : Int) < (T.ps.length : Int) := by omega
  have z3 : (0 : Int) < (T.ps.length : Int) := by omega
  generalize T.ps.length - 1 = j at *
  have hr := X.r2
  go_enter Try.func21, Try.ntmps21
  go_wp2
  go_quiet (fail)
  go_wp2_with fail
  have X1 := X.drewN' nq
  clear hr X c0 c1
  have hr := X1.r2
  generalize World.drewN _ nq = W at *
  refine (C.out q _ X1.1 (IN.out q pq (Int.le_refl _))).mono ?_
  rintro e w1 ⟨rfl, hb⟩
  replace X1 := X1.to hb
  clear hb hr
  have hr := X1.r2
  have FL := field_lo (loT T x q) (hiT T x q)
  by_cases t : loT T x q < depth
  · go_wp2
    exact bodyPost_ret (v := .tuple #[Sv 0 0, .int .i64 12]) (by simp [results, Try.results21, hr, go_sem]) rfl (RF.no t (by have HX := X1.1; have hz := HX.size; go_grown))
  have QH := hide (show depth ≤ loT T x q by omega)
  have X2 := hide X1
  clear hr X1
  go_wp2
  go_loopw [10] (fun v10 Wr => ∃ n : Int, v10 = .int .i64 n ∧ p ≤ n ∧ n ≤ q ∧ Hid (∀ m, p ≤ m → m < n → loT T x m < depth) ∧
      Own w Wr [(w.heap.size + 1, 29, #[.int .i64 0, .int .i64 0]), (w.heap.size, 25, #[.slice A1 T.ds.length k1, .slice (some ⟨b, off, none⟩) T.ps.length k2, .slice A3 T.rows.length k3])])
    (fun v10 _ => (q - intOf v10).toNat)
  case atStart => exact ⟨p, rfl, Int.le_refl _, pq, hide (fun m h1 h2 => by omega), X2.out⟩
  case round =>
    obtain ⟨n, rfl, h1, h2, hc, Y⟩ := hrel
    clear X2
    have hr := Y.r2
    go_wp2_with fail
    refine (C.out n _ Y.1 (IN.out n h1 h2)).mono ?_
    rintro e w2 ⟨rfl, hb⟩
    replace Y := Y.to hb
    clear hb hr
    have hr := Y.r2
    have FL := field_lo (loT T x n) (hiT T x n)
    by_cases t2 : loT T x n < depth
    · have HY := hide Y
      have lt : n < q := by
        rcases Int.lt_or_eq_of_le h2 with k | k
        · exact k
        · subst k; have := QH.out; omega
      have HT := hide t2
      clear Y
      go_wp2
      go_roundw
      case rel => exact ⟨n + 1, by go_num, by omega, by omega, hide fun m k1 k2 => by
        by_cases e : m = n
        · subst e; exact HT.out
        · exact hc.out m k1 (by omega), HY.out⟩
      case measure => simp [intOf]; omega
    · have HT := hide (show depth ≤ loT T x n by omega)
      go_wp2_with fail
      refine (C.out n _ Y.1 (IN.out n h1 h2)).mono ?_
      rintro e w3 ⟨rfl, hb⟩
      replace Y := Y.to hb
      clear hb hr
      go_wp2_with fail
      refine (rfspan_any _ _ depth n p _ (by omega) (by omega)).mono ?_
      rintro e w4 ⟨rfl, hb⟩
      replace Y := Y.to hb
      clear hb
      have hr := Y.r2
      clear FL t2
      obtain ⟨sp, hsp⟩ : ∃ sp, spLo (loT T x n) (hiT T x n) depth n p = sp := ⟨_, rfl⟩
      rw [hsp]
      have HS := hide hsp
      clear hsp
      go_wp2
      exact bodyPost_ret (v := .tuple #[Sv sp n, .int .i64 0]) (by simp [results, Try.results21, hr, go_sem]) rfl (RF.yes h1 h2 HT.out (fun m k1 k2 => hc.out m k1 k2) HS.out (by have HX := Y.1; have hz := HX.size; go_grown))
end Go.Proofs.Ytjnifgheipmanaa
