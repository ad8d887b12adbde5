/- Parts of one proof, joined: Trench: the ways out with an error: what it returns; nothing that was there is turned (printed by gen_trm.py). Trench at any surface and line: the volume, or the error; nothing that was there is turned (printed by gen_trm.py). Present values and the cost of a bill: what Present and Bill return; nothing that was there is turned. -/
import Derived.Test.YtlnlaopokelggaaGreatDoorPkCostsTexts13
import Derived.Test.YtlnlaopokelggaaGreatDoorPkCostsTexts14
namespace Go.Proofs.YtlnlaopokelggaaGreatDoor
open Go Go.RowKit

def ErrP (er : Int) (w : World) : Ending → World → Prop := RetW (.tuple #[.agg #[.int .i64 0, .int .i64 0], .int .i64 er]) w
set_option maxRecDepth 100000 in
set_option maxHeartbeats 2000000 in
theorem cotrench_mesh (m : Msh) (a : MshA) (p q : Pnt) (u d wd : Int) (w : World) (hm : MshSl w m a) (ht : Lib.TabIs Tryz.prog w "internal/strconv.uint64pow10" .u64 Lib.pow10Tab) (hv : vM m = false) : Calls Tryz.prog 14 #[m.val a, p.val, q.val, .int .i64 u, .int .i64 d, .int .i64 wd] w (ErrP 1 w) := by
  have MV := hide (fun W h h' => msvalid_any m a W h h')
  rw [hv] at MV
  unfold RetW at MV
  have HM := hide hm
  have HT := hide ht
  obtain ⟨A1, c1, A2, c2⟩ := a
  have X := ((((Own.start w).alloc #[.slice A1 m.ss.length c1, .slice A2 m.fs.length c2] 52).alloc #[.int .i64 p.x, .int .i64 p.y] 55).alloc #[.int .i64 q.x, .int .i64 q.y] 55).alloc #[.int .i64 0, .int .i64 0] 40
  simp only [World.size_alloc] at X
  have hr := X.r4
  clear hm ht hv
  go_enter Tryz.func14, Tryz.ntmps14
  go_wp2_with fail
  refine (MV.out _ (HM.out.below X.1) (tab_below HT.out X.1)).mono ?_
  rintro e w1 ⟨rfl, hb⟩
  replace X := X.to hb
  clear hr hb
  have hr := X.r4
  have XB := hide X.1
  go_wp2
  exact bodyPost_ret (v := .tuple #[.agg #[.int .i64 0, .int .i64 0], .int .i64 1]) (by simp [results, Tryz.results14, hr, go_sem]) rfl ⟨rfl, by have HX := XB.out; have hz := HX.size; go_grown⟩
set_option maxRecDepth 100000 in
set_option maxHeartbeats 2000000 in
theorem cotrench_p (m : Msh) (a : MshA) (p q : Pnt) (u d wd : Int) (w : World) (hm : MshSl w m a) (ht : Lib.TabIs Tryz.prog w "internal/strconv.uint64pow10" .u64 Lib.pow10Tab) (hv : vM m = true) (hp : inP p = false) : Calls Tryz.prog 14 #[m.val a, p.val, q.val, .int .i64 u, .int .i64 d, .int .i64 wd] w (ErrP 1 w) := by
  have P1 := hide (fun W => plvalid_any p W)
  have P2 := hide (fun W => plvalid_any q W)
  rw [hp] at P1
  unfold RetW at P1
  have MV := hide (fun W h h' => msvalid_any m a W h h')
  rw [hv] at MV
  unfold RetW at MV
  have HM := hide hm
  have HT := hide ht
  obtain ⟨A1, c1, A2, c2⟩ := a
  have X := ((((Own.start w).alloc #[.slice A1 m.ss.length c1, .slice A2 m.fs.length c2] 52).alloc #[.int .i64 p.x, .int .i64 p.y] 55).alloc #[.int .i64 q.x, .int .i64 q.y] 55).alloc #[.int .i64 0, .int .i64 0] 40
  simp only [World.size_alloc] at X
  have hr := X.r4
  clear hm ht hv hp P2
  go_enter Tryz.func14, Tryz.ntmps14
  go_wp2_with fail
  refine (MV.out _ (HM.out.below X.1) (tab_below HT.out X.1)).mono ?_
  rintro e w1 ⟨rfl, hb⟩
  replace X := X.to hb
  clear hr hb
  have hr := X.r4
  go_wp2_with fail
  refine (P1.out _).mono ?_
  rintro e w2 ⟨rfl, hb⟩
  replace X := X.to hb
  clear hr hb
  have hr := X.r4
  have XB := hide X.1
  go_wp2
  exact bodyPost_ret (v := .tuple #[.agg #[.int .i64 0, .int .i64 0], .int .i64 1]) (by simp [results, Tryz.results14, hr, go_sem]) rfl ⟨rfl, by have HX := XB.out; have hz := HX.size; go_grown⟩
set_option maxRecDepth 100000 in
set_option maxHeartbeats 2000000 in
theorem cotrench_q (m : Msh) (a : MshA) (p q : Pnt) (u d wd : Int) (w : World) (hm : MshSl w m a) (ht : Lib.TabIs Tryz.prog w "internal/strconv.uint64pow10" .u64 Lib.pow10Tab) (hv : vM m = true) (hp : inP p = true) (hq : inP q = false) : Calls Tryz.prog 14 #[m.val a, p.val, q.val, .int .i64 u, .int .i64 d, .int .i64 wd] w (ErrP 1 w) := by
  have P1 := hide (fun W => plvalid_any p W)
  have P2 := hide (fun W => plvalid_any q W)
  rw [hp] at P1
  rw [hq] at P2
  unfold RetW at P1 P2
  have MV := hide (fun W h h' => msvalid_any m a W h h')
  rw [hv] at MV
  unfold RetW at MV
  have HM := hide hm
  have HT := hide ht
  obtain ⟨A1, c1, A2, c2⟩ := a
  have X := ((((Own.start w).alloc #[.slice A1 m.ss.length c1, .slice A2 m.fs.length c2] 52).alloc #[.int .i64 p.x, .int .i64 p.y] 55).alloc #[.int .i64 q.x, .int .i64 q.y] 55).alloc #[.int .i64 0, .int .i64 0] 40
  simp only [World.size_alloc] at X
  have hr := X.r4
  clear hm ht hv hp hq
  go_enter Tryz.func14, Tryz.ntmps14
  go_wp2_with fail
  refine (MV.out _ (HM.out.below X.1) (tab_below HT.out X.1)).mono ?_
  rintro e w1 ⟨rfl, hb⟩
  replace X := X.to hb
  clear hr hb
  have hr := X.r4
  go_wp2_with fail
  refine (P1.out _).mono ?_
  rintro e w2 ⟨rfl, hb⟩
  replace X := X.to hb
  clear hr hb
  have hr := X.r4
  go_wp2_with fail
  refine (P2.out _).mono ?_
  rintro e w3 ⟨rfl, hb⟩
  replace X := X.to hb
  clear hr hb
  have hr := X.r4
  have XB := hide X.1
  go_wp2
  exact bodyPost_ret (v := .tuple #[.agg #[.int .i64 0, .int .i64 0], .int .i64 1]) (by simp [results, Tryz.results14, hr, go_sem]) rfl ⟨rfl, by have HX := XB.out; have hz := HX.size; go_grown⟩
set_option maxRecDepth 100000 in
set_option maxHeartbeats 2000000 in
theorem cotrench_same (m : Msh) (a : MshA) (p q : Pnt) (u d wd : Int) (w : World) (hm : MshSl w m a) (ht : Lib.TabIs Tryz.prog w "internal/strconv.uint64pow10" .u64 Lib.pow10Tab) (hv : vM m = true) (hp : inP p = true) (hq : p = q) : Calls Tryz.prog 14 #[m.val a, p.val, q.val, .int .i64 u, .int .i64 d, .int .i64 wd] w (ErrP 25 w) := by
  subst hq
  have P1 := hide (fun W => plvalid_any p W)
  rw [hp] at P1
  unfold RetW at P1
  have x1 : (p.x == p.x) = true := by simp
  have x2 : (p.y == p.y) = true := by simp
  have MV := hide (fun W h h' => msvalid_any m a W h h')
  rw [hv] at MV
  unfold RetW at MV
  have HM := hide hm
  have HT := hide ht
  obtain ⟨A1, c1, A2, c2⟩ := a
  have X := ((((Own.start w).alloc #[.slice A1 m.ss.length c1, .slice A2 m.fs.length c2] 52).alloc #[.int .i64 p.x, .int .i64 p.y] 55).alloc #[.int .i64 p.x, .int .i64 p.y] 55).alloc #[.int .i64 0, .int .i64 0] 40
  simp only [World.size_alloc] at X
  have hr := X.r4
  clear hm ht hv hp
  go_enter Tryz.func14, Tryz.ntmps14
  go_wp2_with fail
  refine (MV.out _ (HM.out.below X.1) (tab_below HT.out X.1)).mono ?_
  rintro e w1 ⟨rfl, hb⟩
  replace X := X.to hb
  clear hr hb
  have hr := X.r4
  go_wp2_with fail
  refine (P1.out _).mono ?_
  rintro e w2 ⟨rfl, hb⟩
  replace X := X.to hb
  clear hr hb
  have hr := X.r4
  go_wp2_with fail
  refine (P1.out _).mono ?_
  rintro e w3 ⟨rfl, hb⟩
  replace X := X.to hb
  clear hr hb
  have hr := X.r4
  have XB := hide X.1
  go_wp2
  exact bodyPost_ret (v := .tuple #[.agg #[.int .i64 0, .int .i64 0], .int .i64 25]) (by simp [results, Tryz.results14, hr, go_sem]) rfl ⟨rfl, by have HX := XB.out; have hz := HX.size; go_grown⟩
set_option maxRecDepth 100000 in
set_option maxHeartbeats 8000000 in
theorem cotrench_range (m : Msh) (a : MshA) (p q : Pnt) (u d wd : Int) (w : World) (hm : MshSl w m a) (ht : Lib.TabIs Tryz.prog w "internal/strconv.uint64pow10" .u64 Lib.pow10Tab) (hv : vM m = true) (hp : inP p = true) (hq : inP q = true) (hne : p ≠ q) (hr0 : rngB u d wd = false) : Calls Tryz.prog 14 #[m.val a, p.val, q.val, .int .i64 u, .int .i64 d, .int .i64 wd] w (ErrP 2 w) := by
  have P1 := hide (fun W => plvalid_any p W)
  have P2 := hide (fun W => plvalid_any q W)
  have B1 := hide (fun W => cobetween_any u (-4194304) 4194304 W)
  have B2 := hide (fun W => cobetween_any d (-4194304) 4194304 W)
  have B3 := hide (fun W => cobetween_any wd 1 10000 W)
  rw [hp] at P1
  rw [hq] at P2
  unfold RetW at P1 P2
  have cs : (decide (-4194304 ≤ u) && decide (u ≤ 4194304)) = false ∨ ((decide (-4194304 ≤ u) && decide (u ≤ 4194304)) = true ∧ (decide (-4194304 ≤ d) && decide (d ≤ 4194304)) = false) ∨
      ((decide (-4194304 ≤ u) && decide (u ≤ 4194304)) = true ∧ (decide (-4194304 ≤ d) && decide (d ≤ 4194304)) = true ∧ (decide (1 ≤ wd) && decide (wd ≤ 10000)) = false) := by
    have h : ((decide (-4194304 ≤ u) && decide (u ≤ 4194304)) && (decide (-4194304 ≤ d) && decide (d ≤ 4194304)) && (decide (1 ≤ wd) && decide (wd ≤ 10000))) = false := hr0
    revert h
    cases (decide (-4194304 ≤ u) && decide (u ≤ 4194304)) <;> cases (decide (-4194304 ≤ d) && decide (d ≤ 4194304)) <;> cases (decide (1 ≤ wd) && decide (wd ≤ 10000)) <;> simp
  have ways : (p.x == q.x) = false ∨ ((p.x == q.x) = true ∧ (p.y == q.y) = false) := by
    cases h1 : (p.x == q.x) <;> cases h2 : (p.y == q.y) <;> simp_all
    exact hne (by cases p; cases q; simp_all)
  have MV := hide (fun W h h' => msvalid_any m a W h h')
  rw [hv] at MV
  unfold RetW at MV
  have HM := hide hm
  have HT := hide ht
  obtain ⟨A1, c1, A2, c2⟩ := a
  have X := ((((Own.start w).alloc #[.slice A1 m.ss.length c1, .slice A2 m.fs.length c2] 52).alloc #[.int .i64 p.x, .int .i64 p.y] 55).alloc #[.int .i64 q.x, .int .i64 q.y] 55).alloc #[.int .i64 0, .int .i64 0] 40
  simp only [World.size_alloc] at X
  have hr := X.r4
  clear hm ht hv hp hq hne hr0
  generalize (decide (-4194304 ≤ u) && decide (u ≤ 4194304)) = b1 at *
  generalize (decide (-4194304 ≤ d) && decide (d ≤ 4194304)) = b2 at *
  generalize (decide (1 ≤ wd) && decide (wd ≤ 10000)) = b3 at *
  rcases cs with rfl | ⟨rfl, rfl⟩ | ⟨rfl, rfl, rfl⟩
  · rcases ways with q1 | ⟨q1, q2⟩
    all_goals
      go_enter Tryz.func14, Tryz.ntmps14
      go_wp2_with fail
      refine (MV.out _ (HM.out.below X.1) (tab_below HT.out X.1)).mono ?_
      rintro e w1 ⟨rfl, hb⟩
      replace X := X.to hb
      clear hr hb
      have hr := X.r4
      go_wp2_with fail
      refine (P1.out _).mono ?_
      rintro e w2 ⟨rfl, hb⟩
      replace X := X.to hb
      clear hr hb
      have hr := X.r4
      go_wp2_with fail
      refine (P2.out _).mono ?_
      rintro e w3 ⟨rfl, hb⟩
      replace X := X.to hb
      clear hr hb
      have hr := X.r4
      go_wp2_with fail
      refine (B1.out _).mono ?_
      rintro e w' ⟨rfl, rfl⟩
      have XB := hide X.1
      go_wp2
      exact bodyPost_ret (v := .tuple #[.agg #[.int .i64 0, .int .i64 0], .int .i64 2]) (by simp [results, Tryz.results14, hr, go_sem]) rfl ⟨rfl, by have HX := XB.out; have hz := HX.size; go_grown⟩
  · rcases ways with q1 | ⟨q1, q2⟩
    all_goals
      go_enter Tryz.func14, Tryz.ntmps14
      go_wp2_with fail
      refine (MV.out _ (HM.out.below X.1) (tab_below HT.out X.1)).mono ?_
      rintro e w1 ⟨rfl, hb⟩
      replace X := X.to hb
      clear hr hb
      have hr := X.r4
      go_wp2_with fail
      refine (P1.out _).mono ?_
      rintro e w2 ⟨rfl, hb⟩
      replace X := X.to hb
      clear hr hb
      have hr := X.r4
      go_wp2_with fail
      refine (P2.out _).mono ?_
      rintro e w3 ⟨rfl, hb⟩
      replace X := X.to hb
      clear hr hb
      have hr := X.r4
      go_wp2_with fail
      refine (B1.out _).mono ?_
      rintro e w' ⟨rfl, rfl⟩
      go_wp2_with fail
      refine (B2.out _).mono ?_
      rintro e w' ⟨rfl, rfl⟩
      have XB := hide X.1
      go_wp2
      exact bodyPost_ret (v := .tuple #[.agg #[.int .i64 0, .int .i64 0], .int .i64 2]) (by simp [results, Tryz.results14, hr, go_sem]) rfl ⟨rfl, by have HX := XB.out; have hz := HX.size; go_grown⟩
  · rcases ways with q1 | ⟨q1, q2⟩
    all_goals
      go_enter Tryz.func14, Tryz.ntmps14
      go_wp2_with fail
      refine (MV.out _ (HM.out.below X.1) (tab_below HT.out X.1)).mono ?_
      rintro e w1 ⟨rfl, hb⟩
      replace X := X.to hb
      clear hr hb
      have hr := X.r4
      go_wp2_with fail
      refine (P1.out _).mono ?_
      rintro e w2 ⟨rfl, hb⟩
      replace X := X.to hb
      clear hr hb
      have hr := X.r4
      go_wp2_with fail
      refine (P2.out _).mono ?_
      rintro e w3 ⟨rfl, hb⟩
      replace X := X.to hb
      clear hr hb
      have hr := X.r4
      go_wp2_with fail
      refine (B1.out _).mono ?_
      rintro e w' ⟨rfl, rfl⟩
      go_wp2_with fail
      refine (B2.out _).mono ?_
      rintro e w' ⟨rfl, rfl⟩
      go_wp2_with fail
      refine (B3.out _).mono ?_
      rintro e w' ⟨rfl, rfl⟩
      have XB := hide X.1
      go_wp2
      exact bodyPost_ret (v := .tuple #[.agg #[.int .i64 0, .int .i64 0], .int .i64 2]) (by simp [results, Tryz.results14, hr, go_sem]) rfl ⟨rfl, by have HX := XB.out; have hz := HX.size; go_grown⟩
end Go.Proofs.YtlnlaopokelggaaGreatDoor

namespace Go.Proofs.YtlnlaopokelggaaGreatDoor
open Go Go.RowKit

theorem sc16 {x : Int} {k : Nat} (h : -134217728 ≤ x * (k : Int) ∧ x * (k : Int) ≤ 134217728) : scE x (k : Int) 16 = 0 ∧ scLo x (k : Int) 16 = dn (x * (k : Int)) 16 ∧ scHi x (k : Int) 16 = up (x * (k : Int)) 16 := by
  have b := dn_rng (n := x * (k : Int)) (d := 16) (z := 8388608) (by omega) (by omega) (by omega)
  have b1 : i64B (dn (x * (k : Int)) 16) = true := i64B_iff.2 (by omega)
  have b2 : i64B (up (x * (k : Int)) 16) = true := i64B_iff.2 (by omega)
  refine ⟨?_, ?_, ?_⟩
  · unfold scE; rw [if_neg (by omega), if_pos ⟨b1, b2⟩]
  · unfold scLo; rw [if_pos ⟨by omega, b1, b2⟩]
  · unfold scHi; rw [if_pos ⟨by omega, b1, b2⟩]
theorem scW {x y : Int} (h : 0 ≤ x ∧ x ≤ 570425344) (h' : 0 ≤ y ∧ y ≤ 671088640000) : scE x y 32000 = 0 ∧ scLo x y 32000 = dn (x * y) 32000 ∧ scHi x y 32000 = up (x * y) 32000 := by
  have p0 : 0 ≤ x * y := Int.mul_nonneg h.1 h'.1
  have p1 : x * y ≤ 570425344 * 671088640000 := Int.mul_le_mul h.2 h'.2 h'.1 (by omega)
  have b := dn_rng (n := x * y) (d := 32000) (z := 11962686510202880) (by omega) (by omega) (by omega)
  have b1 : i64B (dn (x * y) 32000) = true := i64B_iff.2 (by omega)
  have b2 : i64B (up (x * y) 32000) = true := i64B_iff.2 (by omega)
  refine ⟨?_, ?_, ?_⟩
  · unfold scE; rw [if_neg (by omega), if_pos ⟨b1, b2⟩]
  · unfold scLo; rw [if_pos ⟨by omega, b1, b2⟩]
  · unfold scHi; rw [if_pos ⟨by omega, b1, b2⟩]
set_option maxRecDepth 100000 in
set_option maxHeartbeats 8000000 in
theorem cotrench_none (m : Msh) (a : MshA) (p q : Pnt) (u d wd : Int) (w : World) (hm : MshSl w m a) (ht : Lib.TabIs Tryz.prog w "internal/strconv.uint64pow10" .u64 Lib.pow10Tab) (hv : vM m = true) (hp : inP p = true) (hq : inP q = true) (hne : p ≠ q) (hr0 : rngB u d wd = true) (hl : allL m p q 17 = false) : Calls Tryz.prog 14 #[m.val a, p.val, q.val, .int .i64 u, .int .i64 d, .int .i64 wd] w (ErrP 12 w) := by
  have P1 := hide (fun W => plvalid_any p W)
  have P2 := hide (fun W => plvalid_any q W)
  have B1 := hide (fun W => cobetween_any u (-4194304) 4194304 W)
  have B2 := hide (fun W => cobetween_any d (-4194304) 4194304 W)
  have B3 := hide (fun W => cobetween_any wd 1 10000 W)
  have LV := hide (fun W h h' => tsLevels_any m a p q W h h' hv (inP_iff.1 hp) (inP_iff.1 hq) hne)
  have DI := hide (fun W => pldist_any p q W (inP_iff.1 hp) (inP_iff.1 hq))
  rw [hp] at P1
  rw [hq] at P2
  obtain ⟨ru, rd, rw1, rw2⟩ := rngB_iff.1 hr0
  have cb : ((decide (-4194304 ≤ u) && decide (u ≤ 4194304)) = true ∧ (decide (-4194304 ≤ d) && decide (d ≤ 4194304)) = true ∧ (decide (1 ≤ wd) && decide (wd ≤ 10000)) = true) := by
    simp only [Bool.and_eq_true, decide_eq_true_eq]; omega
  rw [cb.1] at B1
  rw [cb.2.1] at B2
  rw [cb.2.2] at B3
  unfold RetW at P1 P2 DI
  have ways : (p.x == q.x) = false ∨ ((p.x == q.x) = true ∧ (p.y == q.y) = false) := by
    cases h1 : (p.x == q.x) <;> cases h2 : (p.y == q.y) <;> simp_all
    exact hne (by cases p; cases q; simp_all)
  have E12 : lvE m p q = 12 := by simp [lvE, hl]
  rw [E12] at LV
  have MV := hide (fun W h h' => msvalid_any m a W h h')
  rw [hv] at MV
  unfold RetW at MV
  have HM := hide hm
  have HT := hide ht
  obtain ⟨A1, c1, A2, c2⟩ := a
  have X := ((((Own.start w).alloc #[.slice A1 m.ss.length c1, .slice A2 m.fs.length c2] 52).alloc #[.int .i64 p.x, .int .i64 p.y] 55).alloc #[.int .i64 q.x, .int .i64 q.y] 55).alloc #[.int .i64 0, .int .i64 0] 40
  simp only [World.size_alloc] at X
  have hr := X.r4
  clear hm ht hv hp hq hne hr0 hl cb E12 ru rd rw1 rw2 DI
  rcases ways with q1 | ⟨q1, q2⟩
  all_goals
    go_enter Tryz.func14, Tryz.ntmps14
    go_wp2_with fail
    refine (MV.out _ (HM.out.below X.1) (tab_below HT.out X.1)).mono ?_
    rintro e w1 ⟨rfl, hb⟩
    replace X := X.to hb
    clear hr hb
    have hr := X.r4
    go_wp2_with fail
    refine (P1.out _).mono ?_
    rintro e w2 ⟨rfl, hb⟩
    replace X := X.to hb
    clear hr hb
    have hr := X.r4
    go_wp2_with fail
    refine (P2.out _).mono ?_
    rintro e w3 ⟨rfl, hb⟩
    replace X := X.to hb
    clear hr hb
    have hr := X.r4
    go_wp2_with fail
    refine (B1.out _).mono ?_
    rintro e w' ⟨rfl, rfl⟩
    go_wp2_with fail
    refine (B2.out _).mono ?_
    rintro e w' ⟨rfl, rfl⟩
    go_wp2_with fail
    refine (B3.out _).mono ?_
    rintro e w' ⟨rfl, rfl⟩
    go_wp2_with fail
    refine (LV.out _ (HM.out.below X.1) (tab_below HT.out X.1)).mono ?_
    rintro e w4 ⟨hb, A, n, cap, rfl, hS⟩
    have XB4 := hide X.1
    replace X := X.to hb
    clear hr hb
    have hr := X.r4
    clear hS
    have XB := hide X.1
    go_wp2
    exact bodyPost_ret (v := .tuple #[.agg #[.int .i64 0, .int .i64 0], .int .i64 12]) (by simp [results, Tryz.results14, hr, go_sem]) rfl ⟨rfl, by have HX := XB.out; have hz := HX.size; go_grown⟩
set_option maxRecDepth 100000 in
set_option maxHeartbeats 16000000 in
theorem cotrench_ok (m : Msh) (a : MshA) (p q : Pnt) (u d wd : Int) (w : World) (hm : MshSl w m a) (ht : Lib.TabIs Tryz.prog w "internal/strconv.uint64pow10" .u64 Lib.pow10Tab) (hv : vM m = true) (hp : inP p = true) (hq : inP q = true) (hne : p ≠ q) (hr0 : rngB u d wd = true) (hl : allL m p q 17 = true) : Calls Tryz.prog 14 #[m.val a, p.val, q.val, .int .i64 u, .int .i64 d, .int .i64 wd] w (RetW (.tuple #[(trS m p q u d wd).val, .int .i64 0]) w) := by
  have P1 := hide (fun W => plvalid_any p W)
  have P2 := hide (fun W => plvalid_any q W)
  have B1 := hide (fun W => cobetween_any u (-4194304) 4194304 W)
  have B2 := hide (fun W => cobetween_any d (-4194304) 4194304 W)
  have B3 := hide (fun W => cobetween_any wd 1 10000 W)
  have LV := hide (fun W h h' => tsLevels_any m a p q W h h' hv (inP_iff.1 hp) (inP_iff.1 hq) hne)
  have DI := hide (fun W => pldist_any p q W (inP_iff.1 hp) (inP_iff.1 hq))
  rw [hp] at P1
  rw [hq] at P2
  obtain ⟨ru, rd, rw1, rw2⟩ := rngB_iff.1 hr0
  have cb : ((decide (-4194304 ≤ u) && decide (u ≤ 4194304)) = true ∧ (decide (-4194304 ≤ d) && decide (d ≤ 4194304)) = true ∧ (decide (1 ≤ wd) && decide (wd ≤ 10000)) = true) := by
    simp only [Bool.and_eq_true, decide_eq_true_eq]; omega
  rw [cb.1] at B1
  rw [cb.2.1] at B2
  rw [cb.2.2] at B3
  unfold RetW at P1 P2 DI
  have ways : (p.x == q.x) = false ∨ ((p.x == q.x) = true ∧ (p.y == q.y) = false) := by
    cases h1 : (p.x == q.x) <;> cases h2 : (p.y == q.y) <;> simp_all
    exact hne (by cases p; cases q; simp_all)
  have E0 : lvE m p q = 0 := by simp [lvE, hl]
  rw [E0] at LV
  have ip := inP_iff.1 hp
  have iq := inP_iff.1 hq
  obtain ⟨D1, D2, D3⟩ := dsS_bd ip iq
  have SB := hide (fun k (hk : k ≤ 17) => sm_bd hv ru rd hl k hk hk)
  have GB := hide (fun k (hk : k < 17) => lvG_bd hv hl hk)
  have PB := hide (fun k (hk : k ≤ 16) => pip_bd ru rd hk)
  have SC := hide (fun k (hk : k ≤ 16) => sc16 (x := d - u) (k := k) (pip_bd ru rd hk).1)
  have SCC := hide (fun (k : Nat) (W : World) => fun (hk : k ≤ 16) => scale_full (d - u) (k : Int) 16 W (by omega) (by omega) (by omega) (by omega) (by omega) (by omega) (by omega))
  have TS := hide (trS_lo m p q u d wd)
  have TH := hide (trS_hi m p q u d wd)
  obtain ⟨x1, hx1⟩ : ∃ x1, x1 = (dsS p q).lo * wd := ⟨_, rfl⟩
  obtain ⟨x2, hx2⟩ : ∃ x2, x2 = (dsS p q).hi * wd := ⟨_, rfl⟩
  rw [← hx1] at TS
  rw [← hx2] at TH
  have bx1 : 0 ≤ x1 ∧ x1 ≤ 671088640000 := by
    rw [hx1]
    exact ⟨Int.mul_nonneg D1 (by omega), Int.le_trans (Int.mul_le_mul (by omega : (dsS p q).lo ≤ 67108864) rw2 (by omega) (by omega)) (by omega)⟩
  have bx2 : 0 ≤ x2 ∧ x2 ≤ 671088640000 := by
    rw [hx2]
    exact ⟨Int.mul_nonneg (by omega) (by omega), Int.le_trans (Int.mul_le_mul D3 rw2 (by omega) (by omega)) (by omega)⟩
  have wx1 : IntKind.i64.wrap ((dsS p q).lo * wd) = x1 := by rw [← hx1]; exact IntWalk.i64_in _ (by omega)
  have wx2 : IntKind.i64.wrap ((dsS p q).hi * wd) = x2 := by rw [← hx2]; exact IntWalk.i64_in _ (by omega)
  have S17 := SB.out 17 (by omega)
  have Z1 := scW (x := smL m p q u d 17) (y := x1) ⟨S17.1, by omega⟩ bx1
  have Z2 := scW (x := smH m p q u d 17) (y := x2) ⟨by omega, by omega⟩ bx2
  have SA := hide (fun W => scale_full (smL m p q u d 17) x1 32000 W (by omega) (by omega) (by omega) (by omega) (by omega) (by omega) (by omega))
  have SD := hide (fun W => scale_full (smH m p q u d 17) x2 32000 W (by omega) (by omega) (by omega) (by omega) (by omega) (by omega) (by omega))
  rw [Z1.1, Z1.2.1, Z1.2.2] at SA
  rw [Z2.1, Z2.2.1, Z2.2.2] at SD
  rw [← TS.out] at SA
  rw [← TH.out] at SD
  have wdu := IntWalk.i64_in (d - u) (by omega)
  have MV := hide (fun W h h' => msvalid_any m a W h h')
  rw [hv] at MV
  unfold RetW at MV
  have HM := hide hm
  have HT := hide ht
  obtain ⟨A1, c1, A2, c2⟩ := a
  have X := ((((Own.start w).alloc #[.slice A1 m.ss.length c1, .slice A2 m.fs.length c2] 52).alloc #[.int .i64 p.x, .int .i64 p.y] 55).alloc #[.int .i64 q.x, .int .i64 q.y] 55).alloc #[.int .i64 0, .int .i64 0] 40
  simp only [World.size_alloc] at X
  have hr := X.r4
  clear hm ht hv hp hq hne hr0 hl cb E0 ip iq D1 D2 D3 hx1 hx2 bx1 bx2 S17 Z1 Z2 TS TH
  generalize trS m p q u d wd = R at *
  generalize up (smL m p q u d 17 * x1) 32000 = j1 at *
  generalize dn (smH m p q u d 17 * x2) 32000 = j2 at *
  generalize dsS p q = ds at *
  rcases ways with q1 | ⟨q1, q2⟩
  all_goals
    go_enter Tryz.func14, Tryz.ntmps14
    go_wp2_with fail
    refine (MV.out _ (HM.out.below X.1) (tab_below HT.out X.1)).mono ?_
    rintro e w1 ⟨rfl, hb⟩
    replace X := X.to hb
    clear hr hb
    have hr := X.r4
    go_wp2_with fail
    refine (P1.out _).mono ?_
    rintro e w2 ⟨rfl, hb⟩
    replace X := X.to hb
    clear hr hb
    have hr := X.r4
    go_wp2_with fail
    refine (P2.out _).mono ?_
    rintro e w3 ⟨rfl, hb⟩
    replace X := X.to hb
    clear hr hb
    have hr := X.r4
    go_wp2_with fail
    refine (B1.out _).mono ?_
    rintro e w' ⟨rfl, rfl⟩
    go_wp2_with fail
    refine (B2.out _).mono ?_
    rintro e w' ⟨rfl, rfl⟩
    go_wp2_with fail
    refine (B3.out _).mono ?_
    rintro e w' ⟨rfl, rfl⟩
    go_wp2_with fail
    refine (LV.out _ (HM.out.below X.1) (tab_below HT.out X.1)).mono ?_
    rintro e w4 ⟨hb, A, n, cap, rfl, hS⟩
    have XB4 := hide X.1
    replace X := X.to hb
    clear hr hb
    have hr := X.r4
    obtain ⟨rfl, SL⟩ := hS rfl
    have lG := lvL_len m p q 17
    have IG := hide (fun k (hk : k < 17) => (show (lvL m p q 17)[k]? = some (lvG m p q k) by simp [lvL, hk]))
    clear hS
    generalize lvL m p q 17 = G at *
    go_wp2_with fail
    refine (DI.out _).mono ?_
    rintro e w5 ⟨rfl, hb⟩
    have SL5 := hide (SL.below hb)
    replace X := hide ((X.to hb).alloc #[.int .i64 ds.lo, .int .i64 ds.hi] 40)
    clear hr hb SL
    have hr := X.out.r5
    go_wp2
    go_loopw [17, 18, 87] (fun v17 v18 v87 wr => ∃ k : Nat, k ≤ 17 ∧ v87 = .int .i64 (k : Int) ∧ v17 = .int .i64 (smL m p q u d k) ∧ v18 = .int .i64 (smH m p q u d k) ∧ Hid (SpnSl wr A G) ∧
      Hid (Own w wr [(w5.heap.size, 40, #[.int .i64 ds.lo, .int .i64 ds.hi]), (w.heap.size + 1 + 1 + 1, 40, #[.int .i64 0, .int .i64 0]), (w.heap.size + 1 + 1, 55, #[.int .i64 q.x, .int .i64 q.y]), (w.heap.size + 1, 55, #[.int .i64 p.x, .int .i64 p.y]), (w.heap.size, 52, #[.slice A1 m.ss.length c1, .slice A2 m.fs.length c2])])) (fun _ _ v _ => 17 - (intOf v).toNat)
    case atStart => exact ⟨0, by omega, rfl, rfl, rfl, hide (SL5.out.below ((Below.refl _ _).alloc (Nat.le_refl _) _)), X⟩
    case round =>
      clear X hr
      obtain ⟨k, hk, rfl, rfl, rfl, SW, X⟩ := hrel
      have hr := X.out.r5
      by_cases hlt : k < 17
      · have g1 : decide (k < G.length) = true := decide_eq_true (by omega)
        have g2 : (0 : Int) ≤ (k : Int) := by omega
        have g3 : (k : Int) < (G.length : Int) := by omega
        obtain ⟨b, off, rfl, hbl, hat⟩ := SW.out.2 (by omega)
        obtain ⟨d0, d1⟩ := hat k (by omega)
        have eG : G[k]'(by omega) = lvG m p q k := by
          have := IG.out k hlt
          rw [List.getElem?_eq_getElem (by omega)] at this
          exact Option.some.inj this
        rw [eG] at d0 d1
        have gb := GB.out k hlt
        obtain ⟨_, pb1, pb2, _⟩ := PB.out k (by omega)
        have sbk := SB.out k (by omega)
        have sbn := SB.out (k + 1) (by omega)
        have SK := hide (fun W => SCC.out k W (by omega))
        obtain ⟨z1, z2, z3⟩ := SC.out k (by omega)
        rw [z1, z2, z3] at SK
        rw [show dn ((d - u) * (k : Int)) 16 = pLo u d k from rfl, show up ((d - u) * (k : Int)) 16 = pHi u d k from rfl] at SK
        have EL : Hid (smL m p q u d (k + 1) = smL m p q u d k + tms k * max 0 ((lvG m p q k).lo - u - pHi u d k)) := hide rfl
        have EH : Hid (smH m p q u d (k + 1) = smH m p q u d k + tms k * max 0 ((lvG m p q k).hi - u - pLo u d k)) := hide rfl
        have ET : Hid (tms k = if k = 0 ∨ k = 16 then 1 else 2) := hide rfl
        clear hat eG z1 z2 z3
        obtain ⟨sL, hsL⟩ : ∃ x, x = smL m p q u d (k + 1) := ⟨_, rfl⟩
        obtain ⟨sH, hsH⟩ : ∃ x, x = smH m p q u d (k + 1) := ⟨_, rfl⟩
        rw [← hsL] at EL sbn
        rw [← hsH] at EH sbn
        replace hsL := hide hsL
        replace hsH := hide hsH
        generalize smL m p q u d k = l0 at *
        generalize smH m p q u d k = h0 at *
        generalize lvG m p q k = s at *
        generalize pLo u d k = plo at *
        generalize pHi u d k = phi at *
        have a1 := IntWalk.i64_in (s.lo - u) (by omega)
        have a2 := IntWalk.i64_in (s.lo - u - phi) (by omega)
        have a3 := IntWalk.i64_in (s.hi - u) (by omega)
        have a4 := IntWalk.i64_in (s.hi - u - plo) (by omega)
        have nb : ¬ b = wr.heap.size := by omega
        have nw := hr.2.2.2.2.2.2
        go_wp2_with fail
        refine (SK.out _).mono ?_
        rintro e w6 ⟨rfl, hb⟩
        have SV := hide (SW.out.below (((Below.refl _ wr).alloc (Nat.le_refl _) (.cells #[.int .i64 s.lo, .int .i64 s.hi] 40)).trans (hb.mono (by simp))))
        replace X := hide ((X.out.alloc #[.int .i64 s.lo, .int .i64 s.hi] 40).to hb)
        clear hr hb SW
        have hr := X.out.r6
        have XT := hide X.out.tail
        have ways2 : (((k : Int) == 0) = true ∧ Hid (sL = l0 + max 0 (s.lo - u - phi) ∧ sH = h0 + max 0 (s.hi - u - plo))) ∨ (((k : Int) == 0) = false ∧ ((k : Int) == 16) = true ∧ Hid (sL = l0 + max 0 (s.lo - u - phi) ∧ sH = h0 + max 0 (s.hi - u - plo))) ∨
            (((k : Int) == 0) = false ∧ ((k : Int) == 16) = false ∧ Hid (sL = l0 + 2 * max 0 (s.lo - u - phi) ∧ sH = h0 + 2 * max 0 (s.hi - u - plo))) := by
          rw [EL.out, EH.out, ET.out]
          by_cases k0 : k = 0
          · exact .inl ⟨beq_iff_eq.2 (by omega), hide (by rw [if_pos (.inl k0)]; omega)⟩
          · by_cases k16 : k = 16
            · exact .inr (.inl ⟨beq_eq_false_iff_ne.2 (by omega), beq_iff_eq.2 (by omega), hide (by rw [if_pos (.inr k16)]; omega)⟩)
            · exact .inr (.inr ⟨beq_eq_false_iff_ne.2 (by omega), beq_eq_false_iff_ne.2 (by omega), hide (by rw [if_neg (by omega)]; omega)⟩)
        clear X EL EH ET
        rcases ways2 with ⟨y1, EE⟩ | ⟨y1, y2, EE⟩ | ⟨y1, y2, EE⟩
        all_goals
          go_wp2
          go_roundw
          case rel => exact ⟨k + 1, by omega, by go_num, by rw [← hsL.out, EE.out.1], by rw [← hsH.out, EE.out.2], SV, XT⟩
          case measure => simp [intOf]; omega
      · obtain rfl : k = 17 := by omega
        have g1 : decide (17 < G.length) = false := decide_eq_false (by omega)
        have sb17 := SB.out 17 (by omega)
        generalize smL m p q u d 17 = l0 at *
        generalize smH m p q u d 17 = h0 at *
        go_wp2_with fail
        refine (SA.out _).mono ?_
        rintro e w6 ⟨rfl, hb⟩
        replace X := hide (X.out.to hb)
        clear hr hb
        have hr := X.out.r5
        go_wp2_with fail
        refine (SD.out _).mono ?_
        rintro e w7 ⟨rfl, hb⟩
        replace X := hide (X.out.to hb)
        clear hr hb
        have hr := X.out.r5
        have XB := hide X.out.1
        go_wp2
        exact bodyPost_ret (v := .tuple #[.agg #[.int .i64 R.lo, .int .i64 R.hi], .int .i64 0]) (by simp [results, Tryz.results14, hr, go_sem]) rfl ⟨rfl, by have HX := XB.out; have hz := HX.size; go_grown⟩
theorem cotrench_any (m : Msh) (a : MshA) (p q : Pnt) (u d wd : Int) (w : World) (hm : MshSl w m a) (ht : Lib.TabIs Tryz.prog w "internal/strconv.uint64pow10" .u64 Lib.pow10Tab) : Calls Tryz.prog 14 #[m.val a, p.val, q.val, .int .i64 u, .int .i64 d, .int .i64 wd] w (RetW (.tuple #[(trR m p q u d wd).val, .int .i64 (trE m p q u d wd)]) w) := by
  by_cases hv : vM m = true
  case neg =>
    have hv : vM m = false := by simpa using hv
    have e : trE m p q u d wd = 1 := by simp [trE, gvE, hv]
    have e2 : trR m p q u d wd = Sp.zero := by simp [trR, e]
    rw [e, e2]
    exact cotrench_mesh m a p q u d wd w hm ht hv
  by_cases hp : inP p = true
  case neg =>
    have hp : inP p = false := by simpa using hp
    have e : trE m p q u d wd = 1 := by simp [trE, gvE, hp]
    have e2 : trR m p q u d wd = Sp.zero := by simp [trR, e]
    rw [e, e2]
    exact cotrench_p m a p q u d wd w hm ht hv hp
  by_cases hne : p = q
  · have e : trE m p q u d wd = 25 := by rw [← hne]; simp [trE, gvE, hv, hp]
    have e2 : trR m p q u d wd = Sp.zero := by simp [trR, e]
    rw [e, e2]
    exact cotrench_same m a p q u d wd w hm ht hv hp hne
  by_cases hq : inP q = true
  case neg =>
    have hq : inP q = false := by simpa using hq
    have e : trE m p q u d wd = 1 := by simp [trE, gvE, hq]
    have e2 : trR m p q u d wd = Sp.zero := by simp [trR, e]
    rw [e, e2]
    exact cotrench_q m a p q u d wd w hm ht hv hp hq
  by_cases hr : rngB u d wd = true
  case neg =>
    have hr : rngB u d wd = false := by simpa using hr
    have e : trE m p q u d wd = 2 := by simp [trE, gvE, hv, hp, hq, hne, hr]
    have e2 : trR m p q u d wd = Sp.zero := by simp [trR, e]
    rw [e, e2]
    exact cotrench_range m a p q u d wd w hm ht hv hp hq hne hr
  by_cases hl : allL m p q 17 = true
  case neg =>
    have hl : allL m p q 17 = false := by simpa using hl
    have e : trE m p q u d wd = 12 := by simp [trE, gvE, hv, hp, hq, hne, hr, hl]
    have e2 : trR m p q u d wd = Sp.zero := by simp [trR, e]
    rw [e, e2]
    exact cotrench_none m a p q u d wd w hm ht hv hp hq hne hr hl
  have e : trE m p q u d wd = 0 := by simp [trE, gvE, hv, hp, hq, hne, hr, hl]
  have e2 : trR m p q u d wd = trS m p q u d wd := by simp [trR, e]
  rw [e, e2]
  exact cotrench_ok m a p q u d wd w hm ht hv hp hq hne hr hl
end Go.Proofs.YtlnlaopokelggaaGreatDoor

namespace Go.Proofs.YtlnlaopokelggaaGreatDoor
open Go Go.RowKit

set_option maxHeartbeats 4000000 in
theorem copresent_no (c n d y : Int) (w : World) (h : prB c n d y = false) : Calls Tryz.prog 12 #[.int .i64 c, .int .i64 n, .int .i64 d, .int .i64 y] w (ErrP 2 w) := by
  have B1 := hide (fun W => cobetween_any c 0 1125899906842624 W)
  have B2 := hide (fun W => cobetween_any n 0 10000 W)
  have B3 := hide (fun W => cobetween_any d 1 10000 W)
  have B4 := hide (fun W => cobetween_any y 0 200 W)
  unfold prB at h
  have X := (Own.start w).alloc #[.int .i64 0, .int .i64 0] 40
  have hr := X.r1
  have XB := hide X.1
  generalize (decide (0 ≤ c) && decide (c ≤ 1125899906842624)) = b1 at *
  generalize (decide (0 ≤ n) && decide (n ≤ 10000)) = b2 at *
  generalize (decide (1 ≤ d) && decide (d ≤ 10000)) = b3 at *
  generalize (decide (0 ≤ y) && decide (y ≤ 200)) = b4 at *
  have ways : b1 = false ∨ (b1 = true ∧ b2 = false) ∨ (b1 = true ∧ b2 = true ∧ b3 = false) ∨ (b1 = true ∧ b2 = true ∧ b3 = true ∧ b4 = false) := by cases b1 <;> cases b2 <;> cases b3 <;> cases b4 <;> simp at h ⊢
  clear h X
  rcases ways with rfl | ⟨rfl, rfl⟩ | ⟨rfl, rfl, rfl⟩ | ⟨rfl, rfl, rfl, rfl⟩
  all_goals
    go_enter Tryz.func12, Tryz.ntmps12
    go_wp2_with fail
    refine (B1.out _).mono ?_
    rintro e w' ⟨rfl, rfl⟩
    first
      | (go_wp2_with fail
         refine (B2.out _).mono ?_
         rintro e w' ⟨rfl, rfl⟩)
      | skip
    first
      | (go_wp2_with fail
         refine (B3.out _).mono ?_
         rintro e w' ⟨rfl, rfl⟩)
      | skip
    first
      | (go_wp2_with fail
         refine (B4.out _).mono ?_
         rintro e w' ⟨rfl, rfl⟩)
      | skip
    go_wp2
    exact bodyPost_ret (v := .tuple #[.agg #[.int .i64 0, .int .i64 0], .int .i64 2]) (by simp [results, Tryz.results12, hr, go_sem]) rfl ⟨rfl, by have HX := XB.out; have hz := HX.size; go_grown⟩
theorem scP {x n d : Int} (h : 0 ≤ x ∧ x ≤ 1125899906842624) (hn : 0 ≤ n ∧ n ≤ 10000) (hd : 1 ≤ d ∧ d ≤ 10000) : scE x d (d + n) = 0 ∧ scLo x d (d + n) = dn (x * d) (d + n) ∧ scHi x d (d + n) = up (x * d) (d + n) := by
  have s1 := dn_step (n := n) (d := d) (x := x) hn.1 hd.1 h.1
  have s2 := up_step (n := n) (d := d) (x := x) hn.1 hd.1 h.1
  have b1 : i64B (dn (x * d) (d + n)) = true := i64B_iff.2 (by omega)
  have b2 : i64B (up (x * d) (d + n)) = true := i64B_iff.2 (by omega)
  refine ⟨?_, ?_, ?_⟩
  · unfold scE; rw [if_neg (by omega), if_pos ⟨b1, b2⟩]
  · unfold scLo; rw [if_pos ⟨by omega, b1, b2⟩]
  · unfold scHi; rw [if_pos ⟨by omega, b1, b2⟩]
set_option maxRecDepth 100000 in
set_option maxHeartbeats 4000000 in
theorem copresent_ok (c n d : Int) (y : Nat) (w : World) (hc : 0 ≤ c ∧ c ≤ 1125899906842624) (hn : 0 ≤ n ∧ n ≤ 10000) (hd : 1 ≤ d ∧ d ≤ 10000) (hy : y ≤ 200) : Calls Tryz.prog 12 #[.int .i64 c, .int .i64 n, .int .i64 d, .int .i64 (y : Int)] w (RetW (.tuple #[.agg #[.int .i64 (prL n d y c), .int .i64 (prU n d y c)], .int .i64 0]) w) := by
  have B1 := hide (fun W => cobetween_any c 0 1125899906842624 W)
  have B2 := hide (fun W => cobetween_any n 0 10000 W)
  have B3 := hide (fun W => cobetween_any d 1 10000 W)
  have B4 := hide (fun W => cobetween_any (y : Int) 0 200 W)
  rw [decide_eq_true (by omega), decide_eq_true (by omega)] at B1 B2 B3 B4
  simp only [Bool.and_self] at B1 B2 B3 B4
  have SC := hide (fun (x : Int) (hx : 0 ≤ x ∧ x ≤ 1125899906842624) W => scale_full x d (d + n) W (by omega) (by omega) (by omega) (by omega) (by omega) (by omega) (by omega))
  have SP := hide (fun (x : Int) (hx : 0 ≤ x ∧ x ≤ 1125899906842624) => scP hx hn hd)
  have BD := hide (fun k => pr_bd (c := c) hn.1 hd.1 hc.1 k)
  have X := (Own.start w).alloc #[.int .i64 0, .int .i64 0] 40
  have hr := X.r1
  have ws := IntWalk.i64_in (d + n) (by omega)
  obtain ⟨c0, c1⟩ := hc
  clear hn hd
  go_enter Tryz.func12, Tryz.ntmps12
  go_wp2_with fail
  refine (B1.out _).mono ?_
  rintro e w' ⟨rfl, rfl⟩
  go_wp2_with fail
  refine (B2.out _).mono ?_
  rintro e w' ⟨rfl, rfl⟩
  go_wp2_with fail
  refine (B3.out _).mono ?_
  rintro e w' ⟨rfl, rfl⟩
  go_wp2_with fail
  refine (B4.out _).mono ?_
  rintro e w' ⟨rfl, rfl⟩
  go_wp2
  have HX0 := hide (X.alloc #[.int .i64 c, .int .i64 c] 40)
  simp only [World.size_alloc] at HX0
  clear X hr B1 B2 B3 B4
  go_loopw [39] (fun v39 wr => ∃ k : Nat, k ≤ y ∧ v39 = .int .i64 (k : Int) ∧ Hid (Own w wr [(w.heap.size + 1, 40, #[.int .i64 (prL n d k c), .int .i64 (prU n d k c)]), (w.heap.size, 40, #[.int .i64 0, .int .i64 0])])) (fun v _ => y - (intOf v).toNat)
  case atStart => exact ⟨0, by omega, rfl, HX0⟩
  case round =>
    clear HX0
    obtain ⟨k, hk, rfl, HX⟩ := hrel
    have hr := HX.out.r2
    by_cases hlt : k < y
    · have g1 : decide (k < y) = true := decide_eq_true hlt
      obtain ⟨b1, b2, b3⟩ := BD.out k
      have S1 := hide (SC.out (prL n d k c) (by omega))
      have S2 := hide (SC.out (prU n d k c) (by omega))
      obtain ⟨z1, z2, z3⟩ := SP.out (prL n d k c) (by omega)
      obtain ⟨y1, y2, y3⟩ := SP.out (prU n d k c) (by omega)
      rw [z1, z2] at S1
      rw [y1, y3] at S2
      have EL : Hid (prL n d (k + 1) c = dn (prL n d k c * d) (d + n)) := hide rfl
      have EU : Hid (prU n d (k + 1) c = up (prU n d k c * d) (d + n)) := hide rfl
      generalize dn (prL n d k c * d) (d + n) = l1 at *
      generalize up (prU n d k c * d) (d + n) = u1 at *
      generalize scHi (prL n d k c) d (d + n) = j1 at *
      generalize scLo (prU n d k c) d (d + n) = j2 at *
      generalize prL n d k c = l0 at *
      generalize prU n d k c = u0 at *
      clear z1 z2 z3 y1 y2 y3 SC SP BD
      go_wp2_with fail
      refine (S1.out _).mono ?_
      rintro e w1 ⟨rfl, hb⟩
      replace HX := hide (HX.out.to hb)
      clear hr hb
      have hr := HX.out.r2
      go_wp2_with fail
      refine (S2.out _).mono ?_
      rintro e w2 ⟨rfl, hb⟩
      replace HX := hide (HX.out.to hb)
      clear hr hb
      have hr := HX.out.r2
      have HZ : Hid (Own w ((w2.setCell ⟨w.heap.size + 1, 0, none⟩ (.int .i64 l1)).setCell ⟨w.heap.size + 1, 1, none⟩ (.int .i64 u1)) [(w.heap.size + 1, 40, #[.int .i64 (prL n d (k + 1) c), .int .i64 (prU n d (k + 1) c)]), (w.heap.size, 40, #[.int .i64 0, .int .i64 0])]) := hide (by rw [EL.out, EU.out]; exact HX.out.put2 (by omega) (by simp) _ _)
      clear HX EL EU
      go_wp2
      go_roundw
      case rel => exact ⟨k + 1, by omega, by go_num, HZ⟩
      case measure => simp [intOf]; omega
    · obtain rfl : k = y := by omega
      have g1 : decide (k < k) = false := decide_eq_false (by omega)
      have XB := hide HX.out.1
      generalize prL n d k c = l0 at *
      generalize prU n d k c = u0 at *
      clear SC SP BD HX
      go_wp2
      exact bodyPost_ret (v := .tuple #[.agg #[.int .i64 l0, .int .i64 u0], .int .i64 0]) (by simp [results, Tryz.results12, hr, go_sem]) rfl ⟨rfl, by have HX := XB.out; have hz := HX.size; go_grown⟩
theorem copresent_any (c n d y : Int) (w : World) : Calls Tryz.prog 12 #[.int .i64 c, .int .i64 n, .int .i64 d, .int .i64 y] w (RetW (.tuple #[(prS c n d y).val, .int .i64 (prE c n d y)]) w) := by
  by_cases h : prB c n d y = true
  · obtain ⟨h1, h2, h3, h4, h5⟩ := prB_iff.1 h
    obtain ⟨k, rfl⟩ : ∃ k : Nat, y = (k : Int) := ⟨y.toNat, by omega⟩
    unfold prS prE
    rw [if_pos h, if_pos h]
    exact copresent_ok c n d k w h1 h2 h3 (by omega)
  · unfold prS prE
    rw [if_neg h, if_neg h]
    exact copresent_no c n d y w (by simpa using h)
/-- the cost of the first items -/
theorem csS_take {l : List Itm} {k : Nat} (h : k < l.length) : csS (l.take (k + 1)) = csS (l.take k) + l[k].am * l[k].pr := by
  rw [List.take_succ_eq_append_getElem h, csS_append]
  simp [csS]
theorem csS_tb {l : List Itm} (hv : vI l = true) (k : Nat) : -(1152921504606846976 * 1000) ≤ csS (l.take k) ∧ csS (l.take k) ≤ 1152921504606846976 * 1000 := by
  obtain ⟨h1, h2⟩ := vI_iff.1 hv
  have b := csS_bd (l.take k) fun x hx => h2 x (List.mem_of_mem_take hx)
  have : (l.take k).length ≤ 1000 := by rw [List.length_take]; omega
  omega
set_option maxHeartbeats 1000000 in
theorem cobill_no (l : List Itm) (A : Option Addr) (cap : Nat) (w : World) (hl : ItmSl w A l) (h : vI l = false) : Calls Tryz.prog 13 #[.slice A l.length cap] w (RetW (.tuple #[.int .i64 0, .int .i64 1]) w) := by
  have V := hide (fun W h => covalid_any l A cap W h)
  rw [h] at V
  unfold RetW at V
  have HL := hide hl
  clear hl h
  go_enter Tryz.func13, Tryz.ntmps13
  go_wp2_with fail
  refine (V.out _ HL.out).mono ?_
  rintro e w1 ⟨rfl, hb⟩
  go_wp2
  go_ret2
  exact ⟨rfl, hb⟩
set_option maxRecDepth 100000 in
set_option maxHeartbeats 4000000 in
theorem cobill_ok (l : List Itm) (A : Option Addr) (cap : Nat) (w : World) (hl : ItmSl w A l) (hv : vI l = true) : Calls Tryz.prog 13 #[.slice A l.length cap] w (RetW (.tuple #[.int .i64 (biV l), .int .i64 (biE l)]) w) := by
  have V := hide (fun W h => covalid_any l A cap W h)
  rw [hv] at V
  have WO := hide (fun W => wsof_any 0 W (by omega))
  have hlen : l.length ≤ 9223372036854775807 := by have := hl.1.1; unfold maxLen at this; omega
  have IT := hide (fun k (h : k < l.length) => (vI_iff.1 hv).2 l[k] (List.getElem_mem h))
  have SB := hide (fun k => csS_tb hv k)
  have WI := hide (fun W => wsint_any (csS l) W (by have := csS_tb hv l.length; rw [List.take_length] at this; exact ⟨by omega, by omega⟩))
  have ET : Hid (csS (l.take l.length) = csS l) := hide (by rw [List.take_length])
  have EE : Hid (biE l = if -1152921504606846976 ≤ csS l ∧ csS l ≤ 1152921504606846976 then 0 else 5) := hide (by unfold biE; rw [if_pos hv])
  have EV : Hid (biV l = if biE l = 0 then csS l else 0) := hide rfl
  have B1 := hide (fun (n : Int) W => cobetween_any n (-1152921504606846976) 1152921504606846976 W)
  unfold RetW at V WO WI
  have HL := hide hl
  clear hl hv
  go_enter Tryz.func13, Tryz.ntmps13
  go_wp2_with fail
  refine (V.out _ HL.out).mono ?_
  rintro e w1 ⟨rfl, hb⟩
  have X := (Own.start w).to hb
  clear hb
  go_wp2_with fail
  refine (WO.out _).mono ?_
  rintro e w2 ⟨rfl, hb⟩
  have hw2 : w.heap.size ≤ w2.heap.size := (X.to hb).1.size
  have HX0 := hide ((X.to hb).alloc #[.int .i64 ((0 : Int) / 1152921504606846976), .int .i64 ((0 : Int) % 1152921504606846976)] 80)
  clear X hb V WO
  go_wp2
  go_loopw [17] (fun v17 wr => ∃ k : Nat, k ≤ l.length ∧ v17 = .int .i64 (k : Int) ∧ Hid (Own w wr [(w2.heap.size, 80, #[.int .i64 (csS (l.take k) / 1152921504606846976), .int .i64 (csS (l.take k) % 1152921504606846976)])])) (fun v _ => l.length - (intOf v).toNat)
  case atStart => exact ⟨0, by omega, rfl, HX0⟩
  case round =>
    clear HX0
    obtain ⟨k, hk, rfl, HX⟩ := hrel
    by_cases hlt : k < l.length
    · have g1 : decide (k < l.length) = true := decide_eq_true hlt
      have g2 : (0 : Int) ≤ (k : Int) := by omega
      have g3 : (k : Int) < (l.length : Int) := by omega
      obtain ⟨b, off, rfl, hbl, hat⟩ := HL.out.2 (by omega)
      obtain ⟨c0, c1, c2⟩ := hat k hlt
      replace c0 := (HX.out.1.cell (p := ⟨b, off + k * 3, none⟩) hbl).trans c0
      replace c1 := (HX.out.1.cell (p := ⟨b, off + k * 3 + 1, none⟩) hbl).trans c1
      replace c2 := (HX.out.1.cell (p := ⟨b, off + k * 3 + 2, none⟩) hbl).trans c2
      have ES := hide (csS_take hlt)
      have s0 := SB.out k
      have s1 := SB.out (k + 1)
      rw [ES.out] at s1
      have it := IT.out k hlt
      obtain ⟨⟨i1, i2⟩, i3, i4⟩ := itB_bd it
      have ib := prod_bd it
      generalize l[k] = x at *
      have PD := hide (fun W => wsproduct_any x.am x.pr W (by omega) (by omega) ⟨by omega, by omega⟩)
      have AD := hide (fun W => wsadd_any (csS (l.take k)) (x.am * x.pr) W ⟨by omega, by omega⟩ ⟨by omega, by omega⟩ ⟨by omega, by omega⟩)
      unfold RetW WV at PD AD
      rw [← ES.out] at AD
      have EN : ∃ u v p1 p2 s1' s2' : Int, u = csS (l.take (k + 1)) / 1152921504606846976 ∧ v = csS (l.take (k + 1)) % 1152921504606846976 ∧ p1 = x.am * x.pr / 1152921504606846976 ∧ p2 = x.am * x.pr % 1152921504606846976 ∧ s1' = csS (l.take k) / 1152921504606846976 ∧ s2' = csS (l.take k) % 1152921504606846976 := ⟨_, _, _, _, _, _, rfl, rfl, rfl, rfl, rfl, rfl⟩
      obtain ⟨u, v, p1, p2, s1', s2', eu, ev, e1, e2, e3, e4⟩ := EN
      rw [← e1, ← e2] at PD AD
      rw [← e3, ← e4] at AD HX
      rw [← eu, ← ev] at AD
      replace eu := hide eu
      replace ev := hide ev
      clear e1 e2 e3 e4 ES s0 s1 it i1 i2 i3 i4 ib hat SB WI ET EE EV
      have hr := HX.out.r1
      have nb : ¬ b = wr.heap.size := by have := HX.out.1.size; omega
      go_wp2_with fail
      refine (PD.out _).mono ?_
      rintro e w3 ⟨rfl, hb⟩
      replace HX := hide (((HX.out.alloc #[.string x.nm, .int .i64 x.am, .int .i64 x.pr] 34).to hb).alloc #[.int .i64 p1, .int .i64 p2] 80)
      clear hb hr c0 c1 c2 nb
      have hr := HX.out.r3
      go_wp2_with fail
      refine (AD.out _).mono ?_
      rintro e w4 ⟨rfl, hb⟩
      have HY := hide (HX.out.to hb).tail.tail
      clear hb hr HX
      have hr := HY.out.r1
      have HZ : Hid (Own w ((w4.setCell ⟨w2.heap.size, 0, none⟩ (.int .i64 u)).setCell ⟨w2.heap.size, 1, none⟩ (.int .i64 v)) [(w2.heap.size, 80, #[.int .i64 (csS (l.take (k + 1)) / 1152921504606846976), .int .i64 (csS (l.take (k + 1)) % 1152921504606846976)])]) := hide (by rw [← eu.out, ← ev.out]; exact HY.out.put2 hw2 (by simp) _ _)
      clear HY
      go_wp2
      go_roundw
      case rel => exact ⟨k + 1, by omega, by go_num, HZ⟩
      case measure => simp [intOf]; omega
    · obtain rfl : k = l.length := by omega
      have g1 : decide (l.length < l.length) = false := decide_eq_false (by omega)
      rw [ET.out] at HX
      have hr := HX.out.r1
      unfold WV at WI
      generalize csS l = S at *
      obtain ⟨u, v, eu, ev⟩ : ∃ u v : Int, u = S / 1152921504606846976 ∧ v = S % 1152921504606846976 := ⟨_, _, rfl, rfl⟩
      rw [← eu, ← ev] at WI HX
      rw [← eu, ← ev] at hr
      clear eu ev SB IT
      by_cases hb0 : i64B S = true
      · have yy := i64_yes hb0
        rw [yy.1, yy.2] at WI
        have BN := hide (B1.out S)
        by_cases hS : -1152921504606846976 ≤ S ∧ S ≤ 1152921504606846976
        · have E0 : biE l = 0 := by rw [EE.out, if_pos hS]
          have V0 : biV l = S := by rw [EV.out, if_pos E0]
          have EZ := hide (And.intro E0 V0)
          rw [decide_eq_true hS.1, decide_eq_true hS.2] at BN
          clear hS hb0 yy E0 V0 EE EV
          go_wp2_with fail
          refine (WI.out _).mono ?_
          rintro e w3 ⟨rfl, hb⟩
          have XB := hide (HX.out.to hb).1
          clear hb hr HX
          go_wp2_with fail
          refine (BN.out _).mono ?_
          rintro e w' ⟨rfl, rfl⟩
          go_wp2
          go_ret2
          exact ⟨by rw [EZ.out.1, EZ.out.2]; rfl, XB.out⟩
        · have E0 : biE l = 5 := by rw [EE.out, if_neg hS]
          have V0 : biV l = 0 := by rw [EV.out, E0]; rfl
          have EZ := hide (And.intro E0 V0)
          have bf : (decide (-1152921504606846976 ≤ S) && decide (S ≤ 1152921504606846976)) = false := by
            cases h : (decide (-1152921504606846976 ≤ S) && decide (S ≤ 1152921504606846976)) with
            | false => rfl
            | true => exact absurd (by simpa using h) hS
          rw [bf] at BN
          clear hS hb0 yy E0 V0 EE EV bf
          go_wp2_with fail
          refine (WI.out _).mono ?_
          rintro e w3 ⟨rfl, hb⟩
          have XB := hide (HX.out.to hb).1
          clear hb hr HX
          go_wp2_with fail
          refine (BN.out _).mono ?_
          rintro e w' ⟨rfl, rfl⟩
          go_wp2
          go_ret2
          exact ⟨by rw [EZ.out.1, EZ.out.2]; rfl, XB.out⟩
      · have hb0 : i64B S = false := by simpa using hb0
        have yy := i64_no hb0
        rw [yy.1, yy.2] at WI
        have hS : ¬ (-1152921504606846976 ≤ S ∧ S ≤ 1152921504606846976) := fun h => by
          have : i64B S = true := i64B_iff.2 (by omega)
          rw [this] at hb0; cases hb0
        have E0 : biE l = 5 := by rw [EE.out, if_neg hS]
        have V0 : biV l = 0 := by rw [EV.out, E0]; rfl
        have EZ := hide (And.intro E0 V0)
        clear hS hb0 yy E0 V0 EE EV
        go_wp2_with fail
        refine (WI.out _).mono ?_
        rintro e w3 ⟨rfl, hb⟩
        have XB := hide (HX.out.to hb).1
        clear hb hr HX
        go_wp2
        go_ret2
        exact ⟨by rw [EZ.out.1, EZ.out.2]; rfl, XB.out⟩
theorem cobill_any (l : List Itm) (A : Option Addr) (cap : Nat) (w : World) (hl : ItmSl w A l) : Calls Tryz.prog 13 #[.slice A l.length cap] w (RetW (.tuple #[.int .i64 (biV l), .int .i64 (biE l)]) w) := by
  cases h : vI l with
  | true => exact cobill_ok l A cap w hl h
  | false =>
    have E0 : biE l = 1 := by unfold biE; rw [h]; rfl
    have V0 : biV l = 0 := by unfold biV; rw [E0]; rfl
    rw [E0, V0]
    exact cobill_no l A cap w hl h
end Go.Proofs.YtlnlaopokelggaaGreatDoor
