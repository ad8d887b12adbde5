/- IntensityCovered: the law's walk, the other ways, and the join. -/
import Derived.Test.YtjnifgheipmanaaItCov
namespace Go.Proofs.Ytjnifgheipmanaa
open Go.RowKit

set_option maxRecDepth 100000 in
set_option maxHeartbeats 4000000 in
theorem cov_big (T : Tab) (a : TabA) (s : Ser) (q : SerA) (y : Int) (w : World) (ht : TabSl w T a) (t1 : bigT T = true) :
    Calls Try.prog 8 #[T.val a, s.val q, .int .i64 y] w fun e w' => e = .returned (.bool true) ∧ Below w.heap.size w w' := by
  obtain ⟨A1, A2, A3, k1, k2, k3⟩ := a
  obtain ⟨A, c⟩ := q
  obtain ⟨fr, st, l⟩ := s
  have X := ((Own.start w).alloc #[.slice A1 T.ds.length k1, .slice A2 T.ps.length k2, .slice A3 T.rows.length k3] 25).alloc #[.int .i64 fr, .int .i64 st, .slice A l.length c] 41
  simp only [World.size_alloc] at X
  have HT := hide ht
  clear ht
  have hr := X.r2
  show Calls Try.prog 8 #[.agg #[.slice A1 T.ds.length k1, .slice A2 T.ps.length k2, .slice A3 T.rows.length k3], .agg #[.int .i64 fr, .int .i64 st, .slice A l.length c], .int .i64 y] w _
  go_enter Try.func8, Try.ntmps8
  go_wp2_with fail
  refine (awake_any _).mono ?_
  rintro e wz ⟨rfl, hb⟩
  replace X := X.to hb
  clear hb hr
  have hr := X.r2
  go_wp2_with fail
  refine (large_any T ⟨A1, A2, A3, k1, k2, k3⟩ _ (HT.out.below X.1)).mono ?_
  rintro e wz ⟨rfl, hb⟩
  rw [t1]
  replace X := X.to hb
  clear hb hr
  have hr := X.r2
  go_wp2
  go_ret
  exact ⟨rfl, X.1⟩
set_option maxRecDepth 100000 in
set_option maxHeartbeats 4000000 in
theorem cov_len (T : Tab) (a : TabA) (s : Ser) (q : SerA) (y : Int) (w : World) (ht : TabSl w T a) (t1 : bigT T = false) (g1 : 30 < s.ds.length) :
    Calls Try.prog 8 #[T.val a, s.val q, .int .i64 y] w fun e w' => e = .returned (.bool true) ∧ Below w.heap.size w w' := by
  obtain ⟨A1, A2, A3, k1, k2, k3⟩ := a
  obtain ⟨A, c⟩ := q
  obtain ⟨fr, st, l⟩ := s
  have X := ((Own.start w).alloc #[.slice A1 T.ds.length k1, .slice A2 T.ps.length k2, .slice A3 T.rows.length k3] 25).alloc #[.int .i64 fr, .int .i64 st, .slice A l.length c] 41
  simp only [World.size_alloc] at X
  have HT := hide ht
  clear ht
  have z1 : (30 : Int) < (l.length : Int) := by have g : 30 < l.length := g1; omega
  clear g1
  have hr := X.r2
  show Calls Try.prog 8 #[.agg #[.slice A1 T.ds.length k1, .slice A2 T.ps.length k2, .slice A3 T.rows.length k3], .agg #[.int .i64 fr, .int .i64 st, .slice A l.length c], .int .i64 y] w _
  go_enter Try.func8, Try.ntmps8
  go_wp2_with fail
  refine (awake_any _).mono ?_
  rintro e wz ⟨rfl, hb⟩
  replace X := X.to hb
  clear hb hr
  have hr := X.r2
  go_wp2_with fail
  refine (large_any T ⟨A1, A2, A3, k1, k2, k3⟩ _ (HT.out.below X.1)).mono ?_
  rintro e wz ⟨rfl, hb⟩
  rw [t1]
  replace X := X.to hb
  clear hb hr
  have hr := X.r2
  go_wp2
  go_ret
  exact ⟨rfl, X.1⟩
set_option maxRecDepth 100000 in
set_option maxHeartbeats 4000000 in
theorem cov_lo (T : Tab) (a : TabA) (s : Ser) (q : SerA) (y : Int) (w : World) (ht : TabSl w T a) (t1 : bigT T = false) (g1 : s.ds.length ≤ 30) (g2 : s.st < 1) :
    Calls Try.prog 8 #[T.val a, s.val q, .int .i64 y] w fun e w' => e = .returned (.bool true) ∧ Below w.heap.size w w' := by
  obtain ⟨A1, A2, A3, k1, k2, k3⟩ := a
  obtain ⟨A, c⟩ := q
  obtain ⟨fr, st, l⟩ := s
  have X := ((Own.start w).alloc #[.slice A1 T.ds.length k1, .slice A2 T.ps.length k2, .slice A3 T.rows.length k3] 25).alloc #[.int .i64 fr, .int .i64 st, .slice A l.length c] 41
  simp only [World.size_alloc] at X
  have HT := hide ht
  clear ht
  have z1 : ¬ (30 : Int) < (l.length : Int) := by have g : l.length ≤ 30 := g1; omega
  have z2 : st < 1 := g2
  clear g1 g2
  have hr := X.r2
  show Calls Try.prog 8 #[.agg #[.slice A1 T.ds.length k1, .slice A2 T.ps.length k2, .slice A3 T.rows.length k3], .agg #[.int .i64 fr, .int .i64 st, .slice A l.length c], .int .i64 y] w _
  go_enter Try.func8, Try.ntmps8
  go_wp2_with fail
  refine (awake_any _).mono ?_
  rintro e wz ⟨rfl, hb⟩
  replace X := X.to hb
  clear hb hr
  have hr := X.r2
  go_wp2_with fail
  refine (large_any T ⟨A1, A2, A3, k1, k2, k3⟩ _ (HT.out.below X.1)).mono ?_
  rintro e wz ⟨rfl, hb⟩
  rw [t1]
  replace X := X.to hb
  clear hb hr
  have hr := X.r2
  go_wp2
  go_ret
  exact ⟨rfl, X.1⟩
set_option maxRecDepth 100000 in
set_option maxHeartbeats 4000000 in
theorem cov_hi (T : Tab) (a : TabA) (s : Ser) (q : SerA) (y : Int) (w : World) (ht : TabSl w T a) (t1 : bigT T = false) (g1 : s.ds.length ≤ 30) (g2 : 86400 < s.st) :
    Calls Try.prog 8 #[T.val a, s.val q, .int .i64 y] w fun e w' => e = .returned (.bool true) ∧ Below w.heap.size w w' := by
  obtain ⟨A1, A2, A3, k1, k2, k3⟩ := a
  obtain ⟨A, c⟩ := q
  obtain ⟨fr, st, l⟩ := s
  have X := ((Own.start w).alloc #[.slice A1 T.ds.length k1, .slice A2 T.ps.length k2, .slice A3 T.rows.length k3] 25).alloc #[.int .i64 fr, .int .i64 st, .slice A l.length c] 41
  simp only [World.size_alloc] at X
  have HT := hide ht
  clear ht
  have z1 : ¬ (30 : Int) < (l.length : Int) := by have g : l.length ≤ 30 := g1; omega
  have z0 : 86400 < st := g2
  have z2 : ¬ st < 1 := by omega
  clear g1 g2
  have hr := X.r2
  show Calls Try.prog 8 #[.agg #[.slice A1 T.ds.length k1, .slice A2 T.ps.length k2, .slice A3 T.rows.length k3], .agg #[.int .i64 fr, .int .i64 st, .slice A l.length c], .int .i64 y] w _
  go_enter Try.func8, Try.ntmps8
  go_wp2_with fail
  refine (awake_any _).mono ?_
  rintro e wz ⟨rfl, hb⟩
  replace X := X.to hb
  clear hb hr
  have hr := X.r2
  go_wp2_with fail
  refine (large_any T ⟨A1, A2, A3, k1, k2, k3⟩ _ (HT.out.below X.1)).mono ?_
  rintro e wz ⟨rfl, hb⟩
  rw [t1]
  replace X := X.to hb
  clear hb hr
  have hr := X.r2
  go_wp2
  go_ret
  exact ⟨rfl, X.1⟩
set_option maxRecDepth 100000 in
set_option maxHeartbeats 16000000 in
theorem cov_bad (T : Tab) (a : TabA) (s : Ser) (q : SerA) (y : Int) (w : World) (ht : TabSl w T a) (hs : SerSl w s q) (t1 : bigT T = false) (g1 : s.ds.length ≤ 30) (g2 : 1 ≤ s.st) (g3 : s.st ≤ 86400) (hv : vS s = false) :
    Calls Try.prog 8 #[T.val a, s.val q, .int .i64 y] w fun e w' => e = .returned (.bool true) ∧ Below w.heap.size w w' := by
  obtain ⟨A1, A2, A3, k1, k2, k3⟩ := a
  obtain ⟨A, c⟩ := q
  obtain ⟨fr, st, l⟩ := s
  have X := ((Own.start w).alloc #[.slice A1 T.ds.length k1, .slice A2 T.ps.length k2, .slice A3 T.rows.length k3] 25).alloc #[.int .i64 fr, .int .i64 st, .slice A l.length c] 41
  simp only [World.size_alloc] at X
  have HT := hide ht
  have HS := hide hs
  have g1' : l.length ≤ 30 := g1
  have g2' : 1 ≤ st := g2
  have g3' : st ≤ 86400 := g3
  have z1 : ¬ (30 : Int) < (l.length : Int) := by omega
  have z2 : ¬ st < 1 := by omega
  have z3 : ¬ 86400 < st := by omega
  have OF' := hide (fun (W : World) (B : Option Addr) (cd : Nat) (h1 : SerSl W ⟨fr, st, l⟩ ⟨A, c⟩) => of_bad ⟨fr, st, l⟩ ⟨A, c⟩ (dsL st l.length) B cd W h1 hv)
  simp only [dsL_length] at OF'
  obtain ⟨i0, hi0, hz0, hz1, hz2⟩ := info_parts int_info19
  clear ht hs g1 g2 g3
  have hr := X.r2
  show Calls Try.prog 8 #[.agg #[.slice A1 T.ds.length k1, .slice A2 T.ps.length k2, .slice A3 T.rows.length k3], .agg #[.int .i64 fr, .int .i64 st, .slice A l.length c], .int .i64 y] w _
  go_enter Try.func8, Try.ntmps8
  go_wp2_with fail
  refine (awake_any _).mono ?_
  rintro e wz ⟨rfl, hb⟩
  replace X := X.to hb
  clear hb hr
  have hr := X.r2
  go_wp2_with fail
  refine (large_any T ⟨A1, A2, A3, k1, k2, k3⟩ _ (HT.out.below X.1)).mono ?_
  rintro e wz ⟨rfl, hb⟩
  rw [t1]
  replace X := X.to hb
  clear hb hr
  have hr := X.r2
  go_wp2
  clear hr
  have HX := hide X
  clear X
  go_loopw [7, 49] (fun v7 v49 wr => ∃ k : Nat, k ≤ l.length ∧ v49 = .int .i64 (k : Int) ∧
    Own w wr [(w.heap.size + 1, 41, #[.int .i64 fr, .int .i64 st, .slice A l.length c]), (w.heap.size, 25, #[.slice A1 T.ds.length k1, .slice A2 T.ps.length k2, .slice A3 T.rows.length k3])] ∧
    wr.ownsRow w.heap.size 3 1 v7 k ((dsL st k).map (Value.int .i64))) (fun _ v49 _ => l.length - (intOf v49).toNat)
  case atStart => exact ⟨0, Nat.zero_le _, rfl, HX.out, by simpa [dsL] using World.ownsRow_nil _ _ _ _⟩
  case round =>
    obtain ⟨k, hk, rfl, Y, hrow⟩ := hrel
    clear HX
    by_cases hlt : k < l.length
    · have p0 : 0 ≤ st * ((k : Int) + 1) := Int.mul_nonneg (by omega) (by omega)
      have p1 : st * ((k : Int) + 1) ≤ 86400 * 31 := Int.mul_le_mul g3' (by omega) (by omega) (by omega)
      obtain ⟨p, hp⟩ : ∃ p, p = st * ((k : Int) + 1) := ⟨_, rfl⟩
      have s1 : IntKind.i64.wrap (st * ((k : Int) + 1)) = p := (IntWalk.i64_in _ (by omega)).trans hp.symm
      have s2 := IntWalk.i64_in ((k : Int) + 1) (by omega)
      have s3 : wrap64 (st * ((k : Int) + 1)) = p := (IntWalk.wrap64_in _ (by omega)).trans hp.symm
      have s4 := IntWalk.wrap64_in ((k : Int) + 1) (by omega)
      have TE : Hid ((dsL st (k + 1)).map (Value.int .i64) = (dsL st k).map (Value.int .i64) ++ [.int .i64 p]) := hide (by rw [dsL_succ, List.map_append, hp]; rfl)
      generalize (dsL st k).map (Value.int .i64) = R at *
      have f1 := (cv_f hlt g1').1
      have f2 := (cv_f hlt g1').2
      have f3 := cv_f3 Y.1.size p
      have f4 := cv_f4 p
      have HY := hide Y
      have HR := hide (hrow.alloc (.cells #[.int .i64 p] 3))
      have hr := Y.r2
      clear p0 p1 Y hrow hp
      go_wp2_with (at_builtin; refine wpList_append_own _ rfl _ _ 22 rfl w.heap.size 3 i0 (.int .i64 0) 1 8 Try.underlying22 hi0 hz0 hz1 hz2 rfl (by decide) _ k R rfl HR.out ⟨wr.heap.size, 0, none⟩ 1 1 [.int .i64 p] rfl rfl (World.news_of_block (cs := #[.int .i64 p]) (t := 3) (fr := (0, 0)) (heap_new_at19 (by rfl))) f4 f1 f2 f3 ?_; intro v4 w4 hown4 hgrow _)
      have Y4 := (HY.out.alloc #[.int .i64 p] 3).tail.grown HR.out hgrow (by simp)
      have B4 := hide (And.intro Y4 hown4)
      clear Y4 hown4 hgrow HR HY hr s1 s2 s3 s4 f1 f2 f3 f4
      go_roundw
      case rel => exact ⟨k + 1, hlt, by go_num, B4.out.1, by rw [TE.out]; exact B4.out.2⟩
      case measure => simp [intOf]; omega
    · have e : k = l.length := by omega
      subst e
      obtain ⟨D, cd, e7, hsl⟩ := IntSl.of_row hrow (by rw [dsL_length]; omega) (fun i hi => by
        rw [dsL_at]
        rw [dsL_length] at hi
        have p0 : 0 ≤ st * ((i : Int) + 1) := Int.mul_nonneg (by omega) (by omega)
        have p1 : st * ((i : Int) + 1) ≤ 86400 * 31 := Int.mul_le_mul g3' (by omega) (by omega) (by omega)
        omega)
      rw [dsL_length] at e7
      subst e7
      have HSL := hide hsl
      have HY := hide Y
      have hr := Y.r2
      clear hrow hsl Y
      go_wp2_with fail
      refine (OF'.out _ D cd (HS.out.below HY.out.1)).mono ?_
      rintro e wq ⟨hb, B, cb, rfl, -⟩
      replace HY := hide (HY.out.to hb)
      clear hb hr HSL
      have hr := HY.out.r2
      go_wp2_with fail
      refine (rfvalid17_any ⟨fr, st, l⟩ ⟨A, c⟩ _ (HS.out.below HY.out.1)).mono ?_
      rintro e wz ⟨rfl, hb⟩
      rw [hv]
      replace HY := hide (HY.out.to hb)
      clear hb hr
      go_wp2
      go_ret
      exact ⟨rfl, HY.out.1⟩
theorem cov_law (T : Tab) (a : TabA) (s : Ser) (q : SerA) (y : Int) (w : World) (ht : TabSl w T a) (hs : SerSl w s q) :
    Calls Try.prog 8 #[T.val a, s.val q, .int .i64 y] w fun e w' => e = .returned (.bool true) ∧ Below w.heap.size w w' := by
  rcases Bool.eq_false_or_eq_true (bigT T) with t1 | t1
  · exact cov_big T a s q y w ht t1
  by_cases g1 : s.ds.length ≤ 30
  rotate_left
  · exact cov_len T a s q y w ht t1 (by omega)
  by_cases g2 : 1 ≤ s.st
  rotate_left
  · exact cov_lo T a s q y w ht t1 g1 (by omega)
  by_cases g3 : s.st ≤ 86400
  rotate_left
  · exact cov_hi T a s q y w ht t1 g1 (by omega)
  rcases Bool.eq_false_or_eq_true (vS s) with hv | hv
  · exact cov_main T a s q y w ht hs t1 g1 g2 g3 hv
  · exact cov_bad T a s q y w ht hs t1 g1 g2 g3 hv
end Go.Proofs.Ytjnifgheipmanaa
