/- Parts of one proof, joined: The program's Distance of points, between, and the ways out of Trench: what each returns; nothing that was there is turned (printed by gen_tr.py). Trench: the ways out with an error: what it returns; nothing that was there is turned (printed by gen_trm.py). Trench at any surface and line: the volume, or the error; nothing that was there is turned (printed by gen_trm.py). The reference FloorOf and CeilOf (sewershedref03) (printed by gen_rf3q.py). -/
import Derived.Test.YtbmocghfpcfmhaaGreatDoorPkCostsTrenches16
import Derived.Test.YtbmocghfpcfmhaaGreatDoorPkCostsTrenches21
import Derived.Test.YtbmocghfpcfmhaaGreatDoorPkCostsTrenches10
namespace Go.Proofs.YtbmocghfpcfmhaaGreatDoor
open Go Go.RowKit

set_option maxRecDepth 100000 in
set_option maxHeartbeats 4000000 in
theorem pldist_any (a b : Pnt) (w : World) (ha : a.in) (hb : b.in) : Calls Tryz.prog 29 #[a.val, b.val] w (RetW (.tuple #[(dsS a b).val, .int .i64 0]) w) := by
  have AL := hide (fun W g (h : PntSl W (some ⟨g, 0, none⟩) [a, b]) => plall_any [a, b] (some ⟨g, 0, none⟩) 2 W h)
  have e1 : [a, b].all inP = true := by simp [inP_iff.2 ha, inP_iff.2 hb]
  rw [e1] at AL
  have SQ := hide (fun W => plsquare_any a b W ha hb)
  obtain ⟨_, s0, s1⟩ := sqD_bd ha hb
  obtain ⟨k0, k1, k2⟩ := isq_bd s0
  have k3 : isq (sqD a b) < 67108863 := sq_lt k0 (by omega) (by omega)
  obtain ⟨n, hn⟩ : ∃ n : Nat, sqD a b = (n : Int) := ⟨(sqD a b).toNat, by omega⟩
  have OF := hide (fun W => wsof_any (n : Int) W ⟨by omega, by omega⟩)
  have RT := hide (fun W => wsroot_any n W (by omega))
  have ED : Hid (dsS a b = ⟨isq (n : Int), isqU (n : Int)⟩) := hide (by rw [← hn]; rfl)
  have EU : Hid (isqU (n : Int) = if isq (n : Int) * isq (n : Int) < (n : Int) then isq (n : Int) + 1 else isq (n : Int)) := hide rfl
  rw [hn] at SQ k0 k1 k2 k3
  rw [ED.out]
  unfold RetW at AL SQ OF RT
  obtain ⟨U, hU⟩ : ∃ U, U = isqU (n : Int) := ⟨_, rfl⟩
  rw [← hU] at EU ⊢
  have n51 : (n : Int) ≤ 2251799813685248 := by omega
  clear ED hU e1 hn s0 s1 k2
  generalize isq (n : Int) = r at *
  obtain ⟨rr, hrr⟩ : ∃ rr, rr = r * r := ⟨_, rfl⟩
  rw [← hrr] at EU k1
  have rr0 : 0 ≤ rr := by rw [hrr]; exact Int.mul_nonneg k0 k0
  have w1 : IntKind.i64.wrap (r * r) = rr := by rw [← hrr]; exact IntWalk.i64_in _ (by omega)
  have w2 := IntWalk.i64_in (r + 1) (by omega)
  have X := (((Own.start w).alloc #[.int .i64 a.x, .int .i64 a.y] 27).alloc #[.int .i64 b.x, .int .i64 b.y] 27).alloc #[.int .i64 0, .int .i64 0] 31
  simp only [World.size_alloc] at X
  have hr := X.r3
  clear hrr ha hb
  unfold WV at *
  generalize (n : Int) / 1152921504606846976 = nh at *
  generalize (n : Int) % 1152921504606846976 = nl at *
  have ways : (rr < (n : Int) ∧ U = r + 1) ∨ (¬ rr < (n : Int) ∧ U = r) := by
    rw [EU.out]
    by_cases h : rr < (n : Int)
    · exact .inl ⟨h, if_pos h⟩
    · exact .inr ⟨h, if_neg h⟩
  clear EU
  show Calls _ _ _ _ (RetW (.tuple #[.agg #[.int .i64 r, .int .i64 U], .int .i64 0]) w)
  rcases ways with ⟨h, e⟩ | ⟨h, e⟩
  all_goals
    rw [e]
    clear e
    go_enter Tryz.func29, Tryz.ntmps29
    go_wp2_with fail
    have Y := X.alloc #[.int .i64 a.x, .int .i64 a.y, .int .i64 b.x, .int .i64 b.y] 27
    simp only [World.size_alloc] at Y
    have PS : PntSl ((((w.alloc (.cells #[.int .i64 a.x, .int .i64 a.y] 27)).alloc (.cells #[.int .i64 b.x, .int .i64 b.y] 27)).alloc (.cells #[.int .i64 0, .int .i64 0] 31)).alloc (.cells #[.int .i64 a.x, .int .i64 a.y, .int .i64 b.x, .int .i64 b.y] 27)) (some ⟨w.heap.size + 1 + 1 + 1, 0, none⟩) [a, b] :=
      ⟨by simp, fun _ => ⟨_, 0, rfl, Y.r1.2.2, fun i hi => by
        have : i = 0 ∨ i = 1 := by simp at hi; omega
        rcases this with rfl | rfl
        · exact ⟨Y.r1.1 0, Y.r1.1 1⟩
        · exact ⟨Y.r1.1 2, Y.r1.1 3⟩⟩⟩
    refine (AL.out _ _ PS).mono ?_
    rintro e w1 ⟨rfl, hb⟩
    replace X := (Y.to hb).tail
    clear hr hb Y PS
    have hr := X.r3
    go_wp2_with fail
    refine (SQ.out _).mono ?_
    rintro e w2 ⟨rfl, hb⟩
    replace X := X.to hb
    clear hr hb
    go_wp2_with fail
    refine (OF.out _).mono ?_
    rintro e w3 ⟨rfl, hb⟩
    replace X := X.to hb
    clear hb
    go_wp2_with fail
    refine (RT.out _).mono ?_
    rintro e w4 ⟨rfl, hb⟩
    replace X := X.to hb
    clear hb
    have hr := X.r3
    have XB := hide X.1
    go_wp2
    exact bodyPost_ret (v := .tuple #[.agg #[.int .i64 r, .int .i64 _], .int .i64 0]) (by simp [results, Tryz.results29, hr, go_sem]) rfl ⟨rfl, by have HX := XB.out; have hz := HX.size; go_grown⟩
set_option maxHeartbeats 1000000 in
theorem cobetween_any (n l h : Int) (w : World) : Calls Tryz.prog 27 #[.int .i64 n, .int .i64 l, .int .i64 h] w fun e w' => e = .returned (.bool (decide (l ≤ n) && decide (n ≤ h))) ∧ w = w' := by
  have ways : decide (l ≤ n) = true ∨ decide (l ≤ n) = false := by cases decide (l ≤ n) <;> simp
  rcases ways with q1 | q1
  all_goals
    rw [q1]
    go_enter Tryz.func27, Tryz.ntmps27
    go_wp2
    go_ret
    exact ⟨ret_bool (by simp), rfl⟩
end Go.Proofs.YtbmocghfpcfmhaaGreatDoor

namespace Go.Proofs.YtbmocghfpcfmhaaGreatDoor
open Go Go.RowKit

def ErrP (er : Int) (w : World) : Ending → World → Prop := RetW (.tuple #[.agg #[.int .i64 0, .int .i64 0], .int .i64 er]) w
set_option maxRecDepth 100000 in
set_option maxHeartbeats 2000000 in
theorem cotrench_mesh (m : Msh) (a : MshA) (p q : Pnt) (u d wd : Int) (w : World) (hm : MshSl w m a) (ht : Lib.TabIs Tryz.prog w "internal/strconv.uint64pow10" .u64 Lib.pow10Tab) (hv : vM m = false) : Calls Tryz.prog 9 #[m.val a, p.val, q.val, .int .i64 u, .int .i64 d, .int .i64 wd] w (ErrP 1 w) := by
  have MV := hide (fun W h h' => msvalid_any m a W h h')
  rw [hv] at MV
  unfold RetW at MV
  have HM := hide hm
  have HT := hide ht
  obtain ⟨A1, c1, A2, c2⟩ := a
  have X := ((((Own.start w).alloc #[.slice A1 m.ss.length c1, .slice A2 m.fs.length c2] 25).alloc #[.int .i64 p.x, .int .i64 p.y] 27).alloc #[.int .i64 q.x, .int .i64 q.y] 27).alloc #[.int .i64 0, .int .i64 0] 31
  simp only [World.size_alloc] at X
  have hr := X.r4
  clear hm ht hv
  go_enter Tryz.func9, Tryz.ntmps9
  go_wp2_with fail
  refine (MV.out _ (HM.out.below X.1) (tab_below HT.out X.1)).mono ?_
  rintro e w1 ⟨rfl, hb⟩
  replace X := X.to hb
  clear hr hb
  have hr := X.r4
  have XB := hide X.1
  go_wp2
  exact bodyPost_ret (v := .tuple #[.agg #[.int .i64 0, .int .i64 0], .int .i64 1]) (by simp [results, Tryz.results9, hr, go_sem]) rfl ⟨rfl, by have HX := XB.out; have hz := HX.size; go_grown⟩
set_option maxRecDepth 100000 in
set_option maxHeartbeats 2000000 in
theorem cotrench_p (m : Msh) (a : MshA) (p q : Pnt) (u d wd : Int) (w : World) (hm : MshSl w m a) (ht : Lib.TabIs Tryz.prog w "internal/strconv.uint64pow10" .u64 Lib.pow10Tab) (hv : vM m = true) (hp : inP p = false) : Calls Tryz.prog 9 #[m.val a, p.val, q.val, .int .i64 u, .int .i64 d, .int .i64 wd] w (ErrP 1 w) := by
  have P1 := hide (fun W => plvalid_any p W)
  have P2 := hide (fun W => plvalid_any q W)
  rw [hp] at P1
  unfold RetW at P1
  have MV := hide (fun W h h' => msvalid_any m a W h h')
  rw [hv] at MV
  unfold RetW at MV
  have HM := hide hm
  have HT := hide ht
  obtain ⟨A1, c1, A2, c2⟩ := a
  have X := ((((Own.start w).alloc #[.slice A1 m.ss.length c1, .slice A2 m.fs.length c2] 25).alloc #[.int .i64 p.x, .int .i64 p.y] 27).alloc #[.int .i64 q.x, .int .i64 q.y] 27).alloc #[.int .i64 0, .int .i64 0] 31
  simp only [World.size_alloc] at X
  have hr := X.r4
  clear hm ht hv hp P2
  go_enter Tryz.func9, Tryz.ntmps9
  go_wp2_with fail
  refine (MV.out _ (HM.out.below X.1) (tab_below HT.out X.1)).mono ?_
  rintro e w1 ⟨rfl, hb⟩
  replace X := X.to hb
  clear hr hb
  have hr := X.r4
  go_wp2_with fail
  refine (P1.out _).mono ?_
  rintro e w2 ⟨rfl, hb⟩
  replace X := X.to hb
  clear hr hb
  have hr := X.r4
  have XB := hide X.1
  go_wp2
  exact bodyPost_ret (v := .tuple #[.agg #[.int .i64 0, .int .i64 0], .int .i64 1]) (by simp [results, Tryz.results9, hr, go_sem]) rfl ⟨rfl, by have HX := XB.out; have hz := HX.size; go_grown⟩
set_option maxRecDepth 100000 in
set_option maxHeartbeats 2000000 in
theorem cotrench_q (m : Msh) (a : MshA) (p q : Pnt) (u d wd : Int) (w : World) (hm : MshSl w m a) (ht : Lib.TabIs Tryz.prog w "internal/strconv.uint64pow10" .u64 Lib.pow10Tab) (hv : vM m = true) (hp : inP p = true) (hq : inP q = false) : Calls Tryz.prog 9 #[m.val a, p.val, q.val, .int .i64 u, .int .i64 d, .int .i64 wd] w (ErrP 1 w) := by
  have P1 := hide (fun W => plvalid_any p W)
  have P2 := hide (fun W => plvalid_any q W)
  rw [hp] at P1
  rw [hq] at P2
  unfold RetW at P1 P2
  have MV := hide (fun W h h' => msvalid_any m a W h h')
  rw [hv] at MV
  unfold RetW at MV
  have HM := hide hm
  have HT := hide ht
  obtain ⟨A1, c1, A2, c2⟩ := a
  have X := ((((Own.start w).alloc #[.slice A1 m.ss.length c1, .slice A2 m.fs.length c2] 25).alloc #[.int .i64 p.x, .int .i64 p.y] 27).alloc #[.int .i64 q.x, .int .i64 q.y] 27).alloc #[.int .i64 0, .int .i64 0] 31
  simp only [World.size_alloc] at X
  have hr := X.r4
  clear hm ht hv hp hq
  go_enter Tryz.func9, Tryz.ntmps9
  go_wp2_with fail
  refine (MV.out _ (HM.out.below X.1) (tab_below HT.out X.1)).mono ?_
  rintro e w1 ⟨rfl, hb⟩
  replace X := X.to hb
  clear hr hb
  have hr := X.r4
  go_wp2_with fail
  refine (P1.out _).mono ?_
  rintro e w2 ⟨rfl, hb⟩
  replace X := X.to hb
  clear hr hb
  have hr := X.r4
  go_wp2_with fail
  refine (P2.out _).mono ?_
  rintro e w3 ⟨rfl, hb⟩
  replace X := X.to hb
  clear hr hb
  have hr := X.r4
  have XB := hide X.1
  go_wp2
  exact bodyPost_ret (v := .tuple #[.agg #[.int .i64 0, .int .i64 0], .int .i64 1]) (by simp [results, Tryz.results9, hr, go_sem]) rfl ⟨rfl, by have HX := XB.out; have hz := HX.size; go_grown⟩
set_option maxRecDepth 100000 in
set_option maxHeartbeats 2000000 in
theorem cotrench_same (m : Msh) (a : MshA) (p q : Pnt) (u d wd : Int) (w : World) (hm : MshSl w m a) (ht : Lib.TabIs Tryz.prog w "internal/strconv.uint64pow10" .u64 Lib.pow10Tab) (hv : vM m = true) (hp : inP p = true) (hq : p = q) : Calls Tryz.prog 9 #[m.val a, p.val, q.val, .int .i64 u, .int .i64 d, .int .i64 wd] w (ErrP 25 w) := by
  subst hq
  have P1 := hide (fun W => plvalid_any p W)
  rw [hp] at P1
  unfold RetW at P1
  have x1 : (p.x == p.x) = true := by simp
  have x2 : (p.y == p.y) = true := by simp
  have MV := hide (fun W h h' => msvalid_any m a W h h')
  rw [hv] at MV
  unfold RetW at MV
  have HM := hide hm
  have HT := hide ht
  obtain ⟨A1, c1, A2, c2⟩ := a
  have X := ((((Own.start w).alloc #[.slice A1 m.ss.length c1, .slice A2 m.fs.length c2] 25).alloc #[.int .i64 p.x, .int .i64 p.y] 27).alloc #[.int .i64 p.x, .int .i64 p.y] 27).alloc #[.int .i64 0, .int .i64 0] 31
  simp only [World.size_alloc] at X
  have hr := X.r4
  clear hm ht hv hp
  go_enter Tryz.func9, Tryz.ntmps9
  go_wp2_with fail
  refine (MV.out _ (HM.out.below X.1) (tab_below HT.out X.1)).mono ?_
  rintro e w1 ⟨rfl, hb⟩
  replace X := X.to hb
  clear hr hb
  have hr := X.r4
  go_wp2_with fail
  refine (P1.out _).mono ?_
  rintro e w2 ⟨rfl, hb⟩
  replace X := X.to hb
  clear hr hb
  have hr := X.r4
  go_wp2_with fail
  refine (P1.out _).mono ?_
  rintro e w3 ⟨rfl, hb⟩
  replace X := X.to hb
  clear hr hb
  have hr := X.r4
  have XB := hide X.1
  go_wp2
  exact bodyPost_ret (v := .tuple #[.agg #[.int .i64 0, .int .i64 0], .int .i64 25]) (by simp [results, Tryz.results9, hr, go_sem]) rfl ⟨rfl, by have HX := XB.out; have hz := HX.size; go_grown⟩
set_option maxRecDepth 100000 in
set_option maxHeartbeats 8000000 in
theorem cotrench_range (m : Msh) (a : MshA) (p q : Pnt) (u d wd : Int) (w : World) (hm : MshSl w m a) (ht : Lib.TabIs Tryz.prog w "internal/strconv.uint64pow10" .u64 Lib.pow10Tab) (hv : vM m = true) (hp : inP p = true) (hq : inP q = true) (hne : p ≠ q) (hr0 : rngB u d wd = false) : Calls Tryz.prog 9 #[m.val a, p.val, q.val, .int .i64 u, .int .i64 d, .int .i64 wd] w (ErrP 2 w) := by
  have P1 := hide (fun W => plvalid_any p W)
  have P2 := hide (fun W => plvalid_any q W)
  have B1 := hide (fun W => cobetween_any u (-4194304) 4194304 W)
  have B2 := hide (fun W => cobetween_any d (-4194304) 4194304 W)
  have B3 := hide (fun W => cobetween_any wd 1 10000 W)
  rw [hp] at P1
  rw [hq] at P2
  unfold RetW at P1 P2
  have cs : (decide (-4194304 ≤ u) && decide (u ≤ 4194304)) = false ∨ ((decide (-4194304 ≤ u) && decide (u ≤ 4194304)) = true ∧ (decide (-4194304 ≤ d) && decide (d ≤ 4194304)) = false) ∨
      ((decide (-4194304 ≤ u) && decide (u ≤ 4194304)) = true ∧ (decide (-4194304 ≤ d) && decide (d ≤ 4194304)) = true ∧ (decide (1 ≤ wd) && decide (wd ≤ 10000)) = false) := by
    have h : ((decide (-4194304 ≤ u) && decide (u ≤ 4194304)) && (decide (-4194304 ≤ d) && decide (d ≤ 4194304)) && (decide (1 ≤ wd) && decide (wd ≤ 10000))) = false := hr0
    revert h
    cases (decide (-4194304 ≤ u) && decide (u ≤ 4194304)) <;> cases (decide (-4194304 ≤ d) && decide (d ≤ 4194304)) <;> cases (decide (1 ≤ wd) && decide (wd ≤ 10000)) <;> simp
  have ways : (p.x == q.x) = false ∨ ((p.x == q.x) = true ∧ (p.y == q.y) = false) := by
    cases h1 : (p.x == q.x) <;> cases h2 : (p.y == q.y) <;> simp_all
    exact hne (by cases p; cases q; simp_all)
  have MV := hide (fun W h h' => msvalid_any m a W h h')
  rw [hv] at MV
  unfold RetW at MV
  have HM := hide hm
  have HT := hide ht
  obtain ⟨A1, c1, A2, c2⟩ := a
  have X := ((((Own.start w).alloc #[.slice A1 m.ss.length c1, .slice A2 m.fs.length c2] 25).alloc #[.int .i64 p.x, .int .i64 p.y] 27).alloc #[.int .i64 q.x, .int .i64 q.y] 27).alloc #[.int .i64 0, .int .i64 0] 31
  simp only [World.size_alloc] at X
  have hr := X.r4
  clear hm ht hv hp hq hne hr0
  generalize (decide (-4194304 ≤ u) && decide (u ≤ 4194304)) = b1 at *
  generalize (decide (-4194304 ≤ d) && decide (d ≤ 4194304)) = b2 at *
  generalize (decide (1 ≤ wd) && decide (wd ≤ 10000)) = b3 at *
  rcases cs with rfl | ⟨rfl, rfl⟩ | ⟨rfl, rfl, rfl⟩
  · rcases ways with q1 | ⟨q1, q2⟩
    all_goals
      go_enter Tryz.func9, Tryz.ntmps9
      go_wp2_with fail
      refine (MV.out _ (HM.out.below X.1) (tab_below HT.out X.1)).mono ?_
      rintro e w1 ⟨rfl, hb⟩
      replace X := X.to hb
      clear hr hb
      have hr := X.r4
      go_wp2_with fail
      refine (P1.out _).mono ?_
      rintro e w2 ⟨rfl, hb⟩
      replace X := X.to hb
      clear hr hb
      have hr := X.r4
      go_wp2_with fail
      refine (P2.out _).mono ?_
      rintro e w3 ⟨rfl, hb⟩
      replace X := X.to hb
      clear hr hb
      have hr := X.r4
      go_wp2_with fail
      refine (B1.out _).mono ?_
      rintro e w' ⟨rfl, rfl⟩
      have XB := hide X.1
      go_wp2
      exact bodyPost_ret (v := .tuple #[.agg #[.int .i64 0, .int .i64 0], .int .i64 2]) (by simp [results, Tryz.results9, hr, go_sem]) rfl ⟨rfl, by have HX := XB.out; have hz := HX.size; go_grown⟩
  · rcases ways with q1 | ⟨q1, q2⟩
    all_goals
      go_enter Tryz.func9, Tryz.ntmps9
      go_wp2_with fail
      refine (MV.out _ (HM.out.below X.1) (tab_below HT.out X.1)).mono ?_
      rintro e w1 ⟨rfl, hb⟩
      replace X := X.to hb
      clear hr hb
      have hr := X.r4
      go_wp2_with fail
      refine (P1.out _).mono ?_
      rintro e w2 ⟨rfl, hb⟩
      replace X := X.to hb
      clear hr hb
      have hr := X.r4
      go_wp2_with fail
      refine (P2.out _).mono ?_
      rintro e w3 ⟨rfl, hb⟩
      replace X := X.to hb
      clear hr hb
      have hr := X.r4
      go_wp2_with fail
      refine (B1.out _).mono ?_
      rintro e w' ⟨rfl, rfl⟩
      go_wp2_with fail
      refine (B2.out _).mono ?_
      rintro e w' ⟨rfl, rfl⟩
      have XB := hide X.1
      go_wp2
      exact bodyPost_ret (v := .tuple #[.agg #[.int .i64 0, .int .i64 0], .int .i64 2]) (by simp [results, Tryz.results9, hr, go_sem]) rfl ⟨rfl, by have HX := XB.out; have hz := HX.size; go_grown⟩
  · rcases ways with q1 | ⟨q1, q2⟩
    all_goals
      go_enter Tryz.func9, Tryz.ntmps9
      go_wp2_with fail
      refine (MV.out _ (HM.out.below X.1) (tab_below HT.out X.1)).mono ?_
      rintro e w1 ⟨rfl, hb⟩
      replace X := X.to hb
      clear hr hb
      have hr := X.r4
      go_wp2_with fail
      refine (P1.out _).mono ?_
      rintro e w2 ⟨rfl, hb⟩
      replace X := X.to hb
      clear hr hb
      have hr := X.r4
      go_wp2_with fail
      refine (P2.out _).mono ?_
      rintro e w3 ⟨rfl, hb⟩
      replace X := X.to hb
      clear hr hb
      have hr := X.r4
      go_wp2_with fail
      refine (B1.out _).mono ?_
      rintro e w' ⟨rfl, rfl⟩
      go_wp2_with fail
      refine (B2.out _).mono ?_
      rintro e w' ⟨rfl, rfl⟩
      go_wp2_with fail
      refine (B3.out _).mono ?_
      rintro e w' ⟨rfl, rfl⟩
      have XB := hide X.1
      go_wp2
      exact bodyPost_ret (v := .tuple #[.agg #[.int .i64 0, .int .i64 0], .int .i64 2]) (by simp [results, Tryz.results9, hr, go_sem]) rfl ⟨rfl, by have HX := XB.out; have hz := HX.size; go_grown⟩
end Go.Proofs.YtbmocghfpcfmhaaGreatDoor

namespace Go.Proofs.YtbmocghfpcfmhaaGreatDoor
open Go Go.RowKit

theorem sc16 {x : Int} {k : Nat} (h : -134217728 ≤ x * (k : Int) ∧ x * (k : Int) ≤ 134217728) : scE x (k : Int) 16 = 0 ∧ scLo x (k : Int) 16 = dn (x * (k : Int)) 16 ∧ scHi x (k : Int) 16 = up (x * (k : Int)) 16 := by
  have b := dn_rng (n := x * (k : Int)) (d := 16) (z := 8388608) (by omega) (by omega) (by omega)
  have b1 : i64B (dn (x * (k : Int)) 16) = true := i64B_iff.2 (by omega)
  have b2 : i64B (up (x * (k : Int)) 16) = true := i64B_iff.2 (by omega)
  refine ⟨?_, ?_, ?_⟩
  · unfold scE; rw [if_neg (by omega), if_pos ⟨b1, b2⟩]
  · unfold scLo; rw [if_pos ⟨by omega, b1, b2⟩]
  · unfold scHi; rw [if_pos ⟨by omega, b1, b2⟩]
theorem scW {x y : Int} (h : 0 ≤ x ∧ x ≤ 570425344) (h' : 0 ≤ y ∧ y ≤ 671088640000) : scE x y 32000 = 0 ∧ scLo x y 32000 = dn (x * y) 32000 ∧ scHi x y 32000 = up (x * y) 32000 := by
  have p0 : 0 ≤ x * y := Int.mul_nonneg h.1 h'.1
  have p1 : x * y ≤ 570425344 * 671088640000 := Int.mul_le_mul h.2 h'.2 h'.1 (by omega)
  have b := dn_rng (n := x * y) (d := 32000) (z := 11962686510202880) (by omega) (by omega) (by omega)
  have b1 : i64B (dn (x * y) 32000) = true := i64B_iff.2 (by omega)
  have b2 : i64B (up (x * y) 32000) = true := i64B_iff.2 (by omega)
  refine ⟨?_, ?_, ?_⟩
  · unfold scE; rw [if_neg (by omega), if_pos ⟨b1, b2⟩]
  · unfold scLo; rw [if_pos ⟨by omega, b1, b2⟩]
  · unfold scHi; rw [if_pos ⟨by omega, b1, b2⟩]
set_option maxRecDepth 100000 in
set_option maxHeartbeats 8000000 in
theorem cotrench_none (m : Msh) (a : MshA) (p q : Pnt) (u d wd : Int) (w : World) (hm : MshSl w m a) (ht : Lib.TabIs Tryz.prog w "internal/strconv.uint64pow10" .u64 Lib.pow10Tab) (hv : vM m = true) (hp : inP p = true) (hq : inP q = true) (hne : p ≠ q) (hr0 : rngB u d wd = true) (hl : allL m p q 17 = false) : Calls Tryz.prog 9 #[m.val a, p.val, q.val, .int .i64 u, .int .i64 d, .int .i64 wd] w (ErrP 12 w) := by
  have P1 := hide (fun W => plvalid_any p W)
  have P2 := hide (fun W => plvalid_any q W)
  have B1 := hide (fun W => cobetween_any u (-4194304) 4194304 W)
  have B2 := hide (fun W => cobetween_any d (-4194304) 4194304 W)
  have B3 := hide (fun W => cobetween_any wd 1 10000 W)
  have LV := hide (fun W h h' => tsLevels_any m a p q W h h' hv (inP_iff.1 hp) (inP_iff.1 hq) hne)
  have DI := hide (fun W => pldist_any p q W (inP_iff.1 hp) (inP_iff.1 hq))
  rw [hp] at P1
  rw [hq] at P2
  obtain ⟨ru, rd, rw1, rw2⟩ := rngB_iff.1 hr0
  have cb : ((decide (-4194304 ≤ u) && decide (u ≤ 4194304)) = true ∧ (decide (-4194304 ≤ d) && decide (d ≤ 4194304)) = true ∧ (decide (1 ≤ wd) && decide (wd ≤ 10000)) = true) := by
    simp only [Bool.and_eq_true, decide_eq_true_eq]; omega
  rw [cb.1] at B1
  rw [cb.2.1] at B2
  rw [cb.2.2] at B3
  unfold RetW at P1 P2 DI
  have ways : (p.x == q.x) = false ∨ ((p.x == q.x) = true ∧ (p.y == q.y) = false) := by
    cases h1 : (p.x == q.x) <;> cases h2 : (p.y == q.y) <;> simp_all
    exact hne (by cases p; cases q; simp_all)
  have E12 : lvE m p q = 12 := by simp [lvE, hl]
  rw [E12] at LV
  have MV := hide (fun W h h' => msvalid_any m a W h h')
  rw [hv] at MV
  unfold RetW at MV
  have HM := hide hm
  have HT := hide ht
  obtain ⟨A1, c1, A2, c2⟩ := a
  have X := ((((Own.start w).alloc #[.slice A1 m.ss.length c1, .slice A2 m.fs.length c2] 25).alloc #[.int .i64 p.x, .int .i64 p.y] 27).alloc #[.int .i64 q.x, .int .i64 q.y] 27).alloc #[.int .i64 0, .int .i64 0] 31
  simp only [World.size_alloc] at X
  have hr := X.r4
  clear hm ht hv hp hq hne hr0 hl cb E12 ru rd rw1 rw2 DI
  rcases ways with q1 | ⟨q1, q2⟩
  all_goals
    go_enter Tryz.func9, Tryz.ntmps9
    go_wp2_with fail
    refine (MV.out _ (HM.out.below X.1) (tab_below HT.out X.1)).mono ?_
    rintro e w1 ⟨rfl, hb⟩
    replace X := X.to hb
    clear hr hb
    have hr := X.r4
    go_wp2_with fail
    refine (P1.out _).mono ?_
    rintro e w2 ⟨rfl, hb⟩
    replace X := X.to hb
    clear hr hb
    have hr := X.r4
    go_wp2_with fail
    refine (P2.out _).mono ?_
    rintro e w3 ⟨rfl, hb⟩
    replace X := X.to hb
    clear hr hb
    have hr := X.r4
    go_wp2_with fail
    refine (B1.out _).mono ?_
    rintro e w' ⟨rfl, rfl⟩
    go_wp2_with fail
    refine (B2.out _).mono ?_
    rintro e w' ⟨rfl, rfl⟩
    go_wp2_with fail
    refine (B3.out _).mono ?_
    rintro e w' ⟨rfl, rfl⟩
    go_wp2_with fail
    refine (LV.out _ (HM.out.below X.1) (tab_below HT.out X.1)).mono ?_
    rintro e w4 ⟨hb, A, n, cap, rfl, hS⟩
    have XB4 := hide X.1
    replace X := X.to hb
    clear hr hb
    have hr := X.r4
    clear hS
    have XB := hide X.1
    go_wp2
    exact bodyPost_ret (v := .tuple #[.agg #[.int .i64 0, .int .i64 0], .int .i64 12]) (by simp [results, Tryz.results9, hr, go_sem]) rfl ⟨rfl, by have HX := XB.out; have hz := HX.size; go_grown⟩
set_option maxRecDepth 100000 in
set_option maxHeartbeats 16000000 in
theorem cotrench_ok (m : Msh) (a : MshA) (p q : Pnt) (u d wd : Int) (w : World) (hm : MshSl w m a) (ht : Lib.TabIs Tryz.prog w "internal/strconv.uint64pow10" .u64 Lib.pow10Tab) (hv : vM m = true) (hp : inP p = true) (hq : inP q = true) (hne : p ≠ q) (hr0 : rngB u d wd = true) (hl : allL m p q 17 = true) : Calls Tryz.prog 9 #[m.val a, p.val, q.val, .int .i64 u, .int .i64 d, .int .i64 wd] w (RetW (.tuple #[(trS m p q u d wd).val, .int .i64 0]) w) := by
  have P1 := hide (fun W => plvalid_any p W)
  have P2 := hide (fun W => plvalid_any q W)
  have B1 := hide (fun W => cobetween_any u (-4194304) 4194304 W)
  have B2 := hide (fun W => cobetween_any d (-4194304) 4194304 W)
  have B3 := hide (fun W => cobetween_any wd 1 10000 W)
  have LV := hide (fun W h h' => tsLevels_any m a p q W h h' hv (inP_iff.1 hp) (inP_iff.1 hq) hne)
  have DI := hide (fun W => pldist_any p q W (inP_iff.1 hp) (inP_iff.1 hq))
  rw [hp] at P1
  rw [hq] at P2
  obtain ⟨ru, rd, rw1, rw2⟩ := rngB_iff.1 hr0
  have cb : ((decide (-4194304 ≤ u) && decide (u ≤ 4194304)) = true ∧ (decide (-4194304 ≤ d) && decide (d ≤ 4194304)) = true ∧ (decide (1 ≤ wd) && decide (wd ≤ 10000)) = true) := by
    simp only [Bool.and_eq_true, decide_eq_true_eq]; omega
  rw [cb.1] at B1
  rw [cb.2.1] at B2
  rw [cb.2.2] at B3
  unfold RetW at P1 P2 DI
  have ways : (p.x == q.x) = false ∨ ((p.x == q.x) = true ∧ (p.y == q.y) = false) := by
    cases h1 : (p.x == q.x) <;> cases h2 : (p.y == q.y) <;> simp_all
    exact hne (by cases p; cases q; simp_all)
  have E0 : lvE m p q = 0 := by simp [lvE, hl]
  rw [E0] at LV
  have ip := inP_iff.1 hp
  have iq := inP_iff.1 hq
  obtain ⟨D1, D2, D3⟩ := dsS_bd ip iq
  have SB := hide (fun k (hk : k ≤ 17) => sm_bd hv ru rd hl k hk hk)
  have GB := hide (fun k (hk : k < 17) => lvG_bd hv hl hk)
  have PB := hide (fun k (hk : k ≤ 16) => pip_bd ru rd hk)
  have SC := hide (fun k (hk : k ≤ 16) => sc16 (x := d - u) (k := k) (pip_bd ru rd hk).1)
  have SCC := hide (fun (k : Nat) (W : World) => fun (hk : k ≤ 16) => scale_full (d - u) (k : Int) 16 W (by omega) (by omega) (by omega) (by omega) (by omega) (by omega) (by omega))
  have TS := hide (trS_lo m p q u d wd)
  have TH := hide (trS_hi m p q u d wd)
  obtain ⟨x1, hx1⟩ : ∃ x1, x1 = (dsS p q).lo * wd := ⟨_, rfl⟩
  obtain ⟨x2, hx2⟩ : ∃ x2, x2 = (dsS p q).hi * wd := ⟨_, rfl⟩
  rw [← hx1] at TS
  rw [← hx2] at TH
  have bx1 : 0 ≤ x1 ∧ x1 ≤ 671088640000 := by
    rw [hx1]
    exact ⟨Int.mul_nonneg D1 (by omega), Int.le_trans (Int.mul_le_mul (by omega : (dsS p q).lo ≤ 67108864) rw2 (by omega) (by omega)) (by omega)⟩
  have bx2 : 0 ≤ x2 ∧ x2 ≤ 671088640000 := by
    rw [hx2]
    exact ⟨Int.mul_nonneg (by omega) (by omega), Int.le_trans (Int.mul_le_mul D3 rw2 (by omega) (by omega)) (by omega)⟩
  have wx1 : IntKind.i64.wrap ((dsS p q).lo * wd) = x1 := by rw [← hx1]; exact IntWalk.i64_in _ (by omega)
  have wx2 : IntKind.i64.wrap ((dsS p q).hi * wd) = x2 := by rw [← hx2]; exact IntWalk.i64_in _ (by omega)
  have S17 := SB.out 17 (by omega)
  have Z1 := scW (x := smL m p q u d 17) (y := x1) ⟨S17.1, by omega⟩ bx1
  have Z2 := scW (x := smH m p q u d 17) (y := x2) ⟨by omega, by omega⟩ bx2
  have SA := hide (fun W => scale_full (smL m p q u d 17) x1 32000 W (by omega) (by omega) (by omega) (by omega) (by omega) (by omega) (by omega))
  have SD := hide (fun W => scale_full (smH m p q u d 17) x2 32000 W (by omega) (by omega) (by omega) (by omega) (by omega) (by omega) (by omega))
  rw [Z1.1, Z1.2.1, Z1.2.2] at SA
  rw [Z2.1, Z2.2.1, Z2.2.2] at SD
  rw [← TS.out] at SA
  rw [← TH.out] at SD
  have wdu := IntWalk.i64_in (d - u) (by omega)
  have MV := hide (fun W h h' => msvalid_any m a W h h')
  rw [hv] at MV
  unfold RetW at MV
  have HM := hide hm
  have HT := hide ht
  obtain ⟨A1, c1, A2, c2⟩ := a
  have X := ((((Own.start w).alloc #[.slice A1 m.ss.length c1, .slice A2 m.fs.length c2] 25).alloc #[.int .i64 p.x, .int .i64 p.y] 27).alloc #[.int .i64 q.x, .int .i64 q.y] 27).alloc #[.int .i64 0, .int .i64 0] 31
  simp only [World.size_alloc] at X
  have hr := X.r4
  clear hm ht hv hp hq hne hr0 hl cb E0 ip iq D1 D2 D3 hx1 hx2 bx1 bx2 S17 Z1 Z2 TS TH
  generalize trS m p q u d wd = R at *
  generalize up (smL m p q u d 17 * x1) 32000 = j1 at *
  generalize dn (smH m p q u d 17 * x2) 32000 = j2 at *
  generalize dsS p q = ds at *
  rcases ways with q1 | ⟨q1, q2⟩
  all_goals
    go_enter Tryz.func9, Tryz.ntmps9
    go_wp2_with fail
    refine (MV.out _ (HM.out.below X.1) (tab_below HT.out X.1)).mono ?_
    rintro e w1 ⟨rfl, hb⟩
    replace X := X.to hb
    clear hr hb
    have hr := X.r4
    go_wp2_with fail
    refine (P1.out _).mono ?_
    rintro e w2 ⟨rfl, hb⟩
    replace X := X.to hb
    clear hr hb
    have hr := X.r4
    go_wp2_with fail
    refine (P2.out _).mono ?_
    rintro e w3 ⟨rfl, hb⟩
    replace X := X.to hb
    clear hr hb
    have hr := X.r4
    go_wp2_with fail
    refine (B1.out _).mono ?_
    rintro e w' ⟨rfl, rfl⟩
    go_wp2_with fail
    refine (B2.out _).mono ?_
    rintro e w' ⟨rfl, rfl⟩
    go_wp2_with fail
    refine (B3.out _).mono ?_
    rintro e w' ⟨rfl, rfl⟩
    go_wp2_with fail
    refine (LV.out _ (HM.out.below X.1) (tab_below HT.out X.1)).mono ?_
    rintro e w4 ⟨hb, A, n, cap, rfl, hS⟩
    have XB4 := hide X.1
    replace X := X.to hb
    clear hr hb
    have hr := X.r4
    obtain ⟨rfl, SL⟩ := hS rfl
    have lG := lvL_len m p q 17
    have IG := hide (fun k (hk : k < 17) => (show (lvL m p q 17)[k]? = some (lvG m p q k) by simp [lvL, hk]))
    clear hS
    generalize lvL m p q 17 = G at *
    go_wp2_with fail
    refine (DI.out _).mono ?_
    rintro e w5 ⟨rfl, hb⟩
    have SL5 := hide (SL.below hb)
    replace X := hide ((X.to hb).alloc #[.int .i64 ds.lo, .int .i64 ds.hi] 31)
    clear hr hb SL
    have hr := X.out.r5
    go_wp2
    go_loopw [17, 18, 87] (fun v17 v18 v87 wr => ∃ k : Nat, k ≤ 17 ∧ v87 = .int .i64 (k : Int) ∧ v17 = .int .i64 (smL m p q u d k) ∧ v18 = .int .i64 (smH m p q u d k) ∧ Hid (SpnSl wr A G) ∧
      Hid (Own w wr [(w5.heap.size, 31, #[.int .i64 ds.lo, .int .i64 ds.hi]), (w.heap.size + 1 + 1 + 1, 31, #[.int .i64 0, .int .i64 0]), (w.heap.size + 1 + 1, 27, #[.int .i64 q.x, .int .i64 q.y]), (w.heap.size + 1, 27, #[.int .i64 p.x, .int .i64 p.y]), (w.heap.size, 25, #[.slice A1 m.ss.length c1, .slice A2 m.fs.length c2])])) (fun _ _ v _ => 17 - (intOf v).toNat)
    case atStart => exact ⟨0, by omega, rfl, rfl, rfl, hide (SL5.out.below ((Below.refl _ _).alloc (Nat.le_refl _) _)), X⟩
    case round =>
      clear X hr
      obtain ⟨k, hk, rfl, rfl, rfl, SW, X⟩ := hrel
      have hr := X.out.r5
      by_cases hlt : k < 17
      · have g1 : decide (k < G.length) = true := decide_eq_true (by omega)
        have g2 : (0 : Int) ≤ (k : Int) := by omega
        have g3 : (k : Int) < (G.length : Int) := by omega
        obtain ⟨b, off, rfl, hbl, hat⟩ := SW.out.2 (by omega)
        obtain ⟨d0, d1⟩ := hat k (by omega)
        have eG : G[k]'(by omega) = lvG m p q k := by
          have := IG.out k hlt
          rw [List.getElem?_eq_getElem (by omega)] at this
          exact Option.some.inj this
        rw [eG] at d0 d1
        have gb := GB.out k hlt
        obtain ⟨_, pb1, pb2, _⟩ := PB.out k (by omega)
        have sbk := SB.out k (by omega)
        have sbn := SB.out (k + 1) (by omega)
        have SK := hide (fun W => SCC.out k W (by omega))
        obtain ⟨z1, z2, z3⟩ := SC.out k (by omega)
        rw [z1, z2, z3] at SK
        rw [show dn ((d - u) * (k : Int)) 16 = pLo u d k from rfl, show up ((d - u) * (k : Int)) 16 = pHi u d k from rfl] at SK
        have EL : Hid (smL m p q u d (k + 1) = smL m p q u d k + tms k * max 0 ((lvG m p q k).lo - u - pHi u d k)) := hide rfl
        have EH : Hid (smH m p q u d (k + 1) = smH m p q u d k + tms k * max 0 ((lvG m p q k).hi - u - pLo u d k)) := hide rfl
        have ET : Hid (tms k = if k = 0 ∨ k = 16 then 1 else 2) := hide rfl
        clear hat eG z1 z2 z3
        obtain ⟨sL, hsL⟩ : ∃ x, x = smL m p q u d (k + 1) := ⟨_, rfl⟩
        obtain ⟨sH, hsH⟩ : ∃ x, x = smH m p q u d (k + 1) := ⟨_, rfl⟩
        rw [← hsL] at EL sbn
        rw [← hsH] at EH sbn
        replace hsL := hide hsL
        replace hsH := hide hsH
        generalize smL m p q u d k = l0 at *
        generalize smH m p q u d k = h0 at *
        generalize lvG m p q k = s at *
        generalize pLo u d k = plo at *
        generalize pHi u d k = phi at *
        have a1 := IntWalk.i64_in (s.lo - u) (by omega)
        have a2 := IntWalk.i64_in (s.lo - u - phi) (by omega)
        have a3 := IntWalk.i64_in (s.hi - u) (by omega)
        have a4 := IntWalk.i64_in (s.hi - u - plo) (by omega)
        have nb : ¬ b = wr.heap.size := by omega
        have nw := hr.2.2.2.2.2.2
        go_wp2_with fail
        refine (SK.out _).mono ?_
        rintro e w6 ⟨rfl, hb⟩
        have SV := hide (SW.out.below (((Below.refl _ wr).alloc (Nat.le_refl _) (.cells #[.int .i64 s.lo, .int .i64 s.hi] 31)).trans (hb.mono (by simp))))
        replace X := hide ((X.out.alloc #[.int .i64 s.lo, .int .i64 s.hi] 31).to hb)
        clear hr hb SW
        have hr := X.out.r6
        have XT := hide X.out.tail
        have ways2 : (((k : Int) == 0) = true ∧ Hid (sL = l0 + max 0 (s.lo - u - phi) ∧ sH = h0 + max 0 (s.hi - u - plo))) ∨ (((k : Int) == 0) = false ∧ ((k : Int) == 16) = true ∧ Hid (sL = l0 + max 0 (s.lo - u - phi) ∧ sH = h0 + max 0 (s.hi - u - plo))) ∨
            (((k : Int) == 0) = false ∧ ((k : Int) == 16) = false ∧ Hid (sL = l0 + 2 * max 0 (s.lo - u - phi) ∧ sH = h0 + 2 * max 0 (s.hi - u - plo))) := by
          rw [EL.out, EH.out, ET.out]
          by_cases k0 : k = 0
          · exact .inl ⟨beq_iff_eq.2 (by omega), hide (by rw [if_pos (.inl k0)]; omega)⟩
          · by_cases k16 : k = 16
            · exact .inr (.inl ⟨beq_eq_false_iff_ne.2 (by omega), beq_iff_eq.2 (by omega), hide (by rw [if_pos (.inr k16)]; omega)⟩)
            · exact .inr (.inr ⟨beq_eq_false_iff_ne.2 (by omega), beq_eq_false_iff_ne.2 (by omega), hide (by rw [if_neg (by omega)]; omega)⟩)
        clear X EL EH ET
        rcases ways2 with ⟨y1, EE⟩ | ⟨y1, y2, EE⟩ | ⟨y1, y2, EE⟩
        all_goals
          go_wp2
          go_roundw
          case rel => exact ⟨k + 1, by omega, by go_num, by rw [← hsL.out, EE.out.1], by rw [← hsH.out, EE.out.2], SV, XT⟩
          case measure => simp [intOf]; omega
      · obtain rfl : k = 17 := by omega
        have g1 : decide (17 < G.length) = false := decide_eq_false (by omega)
        have sb17 := SB.out 17 (by omega)
        generalize smL m p q u d 17 = l0 at *
        generalize smH m p q u d 17 = h0 at *
        go_wp2_with fail
        refine (SA.out _).mono ?_
        rintro e w6 ⟨rfl, hb⟩
        replace X := hide (X.out.to hb)
        clear hr hb
        have hr := X.out.r5
        go_wp2_with fail
        refine (SD.out _).mono ?_
        rintro e w7 ⟨rfl, hb⟩
        replace X := hide (X.out.to hb)
        clear hr hb
        have hr := X.out.r5
        have XB := hide X.out.1
        go_wp2
        exact bodyPost_ret (v := .tuple #[.agg #[.int .i64 R.lo, .int .i64 R.hi], .int .i64 0]) (by simp [results, Tryz.results9, hr, go_sem]) rfl ⟨rfl, by have HX := XB.out; have hz := HX.size; go_grown⟩
theorem cotrench_any (m : Msh) (a : MshA) (p q : Pnt) (u d wd : Int) (w : World) (hm : MshSl w m a) (ht : Lib.TabIs Tryz.prog w "internal/strconv.uint64pow10" .u64 Lib.pow10Tab) : Calls Tryz.prog 9 #[m.val a, p.val, q.val, .int .i64 u, .int .i64 d, .int .i64 wd] w (RetW (.tuple #[(trR m p q u d wd).val, .int .i64 (trE m p q u d wd)]) w) := by
  by_cases hv : vM m = true
  case neg =>
    have hv : vM m = false := by simpa using hv
    have e : trE m p q u d wd = 1 := by simp [trE, gvE, hv]
    have e2 : trR m p q u d wd = Sp.zero := by simp [trR, e]
    rw [e, e2]
    exact cotrench_mesh m a p q u d wd w hm ht hv
  by_cases hp : inP p = true
  case neg =>
    have hp : inP p = false := by simpa using hp
    have e : trE m p q u d wd = 1 := by simp [trE, gvE, hp]
    have e2 : trR m p q u d wd = Sp.zero := by simp [trR, e]
    rw [e, e2]
    exact cotrench_p m a p q u d wd w hm ht hv hp
  by_cases hne : p = q
  · have e : trE m p q u d wd = 25 := by rw [← hne]; simp [trE, gvE, hv, hp]
    have e2 : trR m p q u d wd = Sp.zero := by simp [trR, e]
    rw [e, e2]
    exact cotrench_same m a p q u d wd w hm ht hv hp hne
  by_cases hq : inP q = true
  case neg =>
    have hq : inP q = false := by simpa using hq
    have e : trE m p q u d wd = 1 := by simp [trE, gvE, hq]
    have e2 : trR m p q u d wd = Sp.zero := by simp [trR, e]
    rw [e, e2]
    exact cotrench_q m a p q u d wd w hm ht hv hp hq
  by_cases hr : rngB u d wd = true
  case neg =>
    have hr : rngB u d wd = false := by simpa using hr
    have e : trE m p q u d wd = 2 := by simp [trE, gvE, hv, hp, hq, hne, hr]
    have e2 : trR m p q u d wd = Sp.zero := by simp [trR, e]
    rw [e, e2]
    exact cotrench_range m a p q u d wd w hm ht hv hp hq hne hr
  by_cases hl : allL m p q 17 = true
  case neg =>
    have hl : allL m p q 17 = false := by simpa using hl
    have e : trE m p q u d wd = 12 := by simp [trE, gvE, hv, hp, hq, hne, hr, hl]
    have e2 : trR m p q u d wd = Sp.zero := by simp [trR, e]
    rw [e, e2]
    exact cotrench_none m a p q u d wd w hm ht hv hp hq hne hr hl
  have e : trE m p q u d wd = 0 := by simp [trE, gvE, hv, hp, hq, hne, hr, hl]
  have e2 : trR m p q u d wd = trS m p q u d wd := by simp [trR, e]
  rw [e, e2]
  exact cotrench_ok m a p q u d wd w hm ht hv hp hq hne hr hl
end Go.Proofs.YtbmocghfpcfmhaaGreatDoor

namespace Go.Proofs.YtbmocghfpcfmhaaGreatDoor
open Go.RowKit

def One (v : Int) (w : World) (e : Ending) (w' : World) : Prop := e = .returned (.int .i64 v) ∧ Below w.heap.size w w'
set_option maxHeartbeats 1000000 in
theorem n3floorof (n num den : Int) (w : World) (h1 : -9223372036854775808 ≤ n ∧ n ≤ 9223372036854775807) (h2 : -9223372036854775808 ≤ num ∧ num ≤ 9223372036854775807) (h3 : -9223372036854775808 ≤ den ∧ den ≤ 9223372036854775807) (h0 : den ≠ 0) (hf : fitsI (fdv (n * num) den) = true) :
    Calls Tryz.prog 38 #[.int .i64 n, .int .i64 num, .int .i64 den] w (One (fdv (n * num) den) w) := by
  have X := Own.start w
  have T := hide (fun W => n3times n num W h1 h2)
  have O := hide (fun W => n3ofint den W h3)
  have H0 := hide h0
  have HF := hide hf
  clear h1 h2 h3 h0 hf
  generalize n * num = p at *
  go_enter Tryz.func38, Tryz.ntmps38
  go_wp2_with fail
  refine (T.out _).mono ?_
  rintro e w1 ⟨⟨ah, al, sa, rfl, ha⟩, hb⟩
  replace X := X.to hb
  have HA := hide ha
  clear hb ha
  go_wp2_with fail
  refine (O.out _).mono ?_
  rintro e w2 ⟨⟨dh, dl, sd, rfl, hd⟩, hb⟩
  replace X := X.to hb
  have HD := hide hd
  clear hb hd
  go_wp2_with fail
  refine (n3down HA.out HD.out H0.out _).mono ?_
  rintro e w3 ⟨⟨qh, ql, sq, rfl, hq⟩, hb⟩
  replace X := X.to hb
  have HQ := hide hq
  clear hb hq
  go_wp2_with fail
  refine (n3isint HQ.out _).mono ?_
  rintro e w4 ⟨⟨v, rfl, hv⟩, hb⟩
  replace X := X.to hb
  have HV := hide hv
  clear hb hv
  go_wp2
  go_ret
  exact ⟨ret_int (HV.out HF.out), X.1⟩
set_option maxHeartbeats 1000000 in
theorem n3ceilof (n num den : Int) (w : World) (h1 : -9223372036854775808 ≤ n ∧ n ≤ 9223372036854775807) (h2 : -9223372036854775808 ≤ num ∧ num ≤ 9223372036854775807) (h3 : -9223372036854775808 ≤ den ∧ den ≤ 9223372036854775807) (h0 : den ≠ 0) (hf : fitsI (cdv (n * num) den) = true) :
    Calls Tryz.prog 39 #[.int .i64 n, .int .i64 num, .int .i64 den] w (One (cdv (n * num) den) w) := by
  have X := Own.start w
  have T := hide (fun W => n3times n num W h1 h2)
  have O := hide (fun W => n3ofint den W h3)
  have H0 := hide h0
  have HF := hide hf
  clear h1 h2 h3 h0 hf
  generalize n * num = p at *
  go_enter Tryz.func39, Tryz.ntmps39
  go_wp2_with fail
  refine (T.out _).mono ?_
  rintro e w1 ⟨⟨ah, al, sa, rfl, ha⟩, hb⟩
  replace X := X.to hb
  have HA := hide ha
  clear hb ha
  go_wp2_with fail
  refine (O.out _).mono ?_
  rintro e w2 ⟨⟨dh, dl, sd, rfl, hd⟩, hb⟩
  replace X := X.to hb
  have HD := hide hd
  clear hb hd
  go_wp2_with fail
  refine (n3up HA.out HD.out H0.out _).mono ?_
  rintro e w3 ⟨⟨qh, ql, sq, rfl, hq⟩, hb⟩
  replace X := X.to hb
  have HQ := hide hq
  clear hb hq
  go_wp2_with fail
  refine (n3isint HQ.out _).mono ?_
  rintro e w4 ⟨⟨v, rfl, hv⟩, hb⟩
  replace X := X.to hb
  have HV := hide hv
  clear hb hv
  go_wp2
  go_ret
  exact ⟨ret_int (HV.out HF.out), X.1⟩
end Go.Proofs.YtbmocghfpcfmhaaGreatDoor
