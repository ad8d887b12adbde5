/- The law CostsDeeper returns true for every surface, line, heights, width and depth more; nothing that was there is turned. -/
import Derived.Test.YtbmocghfpcfmhaaGreatDoorPkCostsTrenches24
import Derived.Test.YtbmocghfpcfmhaaGreatDoorPkCostsTrenches21
namespace Go.Proofs.YtbmocghfpcfmhaaGreatDoor
open Go Go.RowKit

set_option maxRecDepth 100000 in
set_option maxHeartbeats 4000000 in
theorem deeper_no (m : Msh) (a : MshA) (p q : Pnt) (u d wd n : Int) (w : World) (hm : MshSl w m a) (ht : Lib.TabIs Tryz.prog w "internal/strconv.uint64pow10" .u64 Lib.pow10Tab) (hE : trE m p q u d wd ≠ 0) :
    Calls Tryz.prog 4 #[m.val a, p.val, q.val, .int .i64 u, .int .i64 d, .int .i64 wd, .int .u16 n] w (RetW (.bool true) w) := by
  have AW := hide (fun W h => awake48_any W h)
  have WD := hide (fun W => wide48_any m a W)
  have MV := hide (fun W h => mrvalid_any m a W h)
  have T1 := hide (fun W h h' => cotrench_any m a p q u d wd W h h')
  have eS : trR m p q u d wd = Sp.zero := by unfold trR; rw [if_neg hE]
  rw [eS] at T1
  have T2 : Hid (∀ (W : World), MshSl W m a → Lib.TabIs Tryz.prog W "internal/strconv.uint64pow10" .u64 Lib.pow10Tab → Calls Tryz.prog 9 #[m.val a, p.val, q.val, .int .i64 u, .int .i64 d, .int .i64 wd] W (RetW (.tuple #[.agg #[.int .i64 0, .int .i64 0], .int .i64 (trE m p q u d wd)]) W)) := T1
  clear T1
  unfold RetW at AW MV T2
  have HM := hide hm
  have HT := hide ht
  generalize trE m p q u d wd = E at *
  have e3 : (E == 0) = false := beq_eq_false_iff_ne.2 hE
  generalize vM m = vm at *
  obtain ⟨A1, c1, A2, c2⟩ := a
  have X := (((Own.start w).alloc #[.slice A1 m.ss.length c1, .slice A2 m.fs.length c2] 25).alloc #[.int .i64 p.x, .int .i64 p.y] 27).alloc #[.int .i64 q.x, .int .i64 q.y] 27
  simp only [World.size_alloc] at X
  have hr := X.r3
  clear hm ht eS hE
  go_enter Tryz.func4, Tryz.ntmps4
  go_wp2_with fail
  refine (AW.out _ (tab_below HT.out X.1)).mono ?_
  rintro e w1 ⟨rfl, hb⟩
  replace X := X.to hb
  clear hr hb
  have hr := X.r3
  go_wp2_with fail
  refine (WD.out _).mono ?_
  rintro e w2 ⟨b, rfl, hb⟩
  replace X := X.to hb
  clear hr hb
  have hr := X.r3
  cases b with
  | true =>
    have XB := hide X.1
    clear X
    go_wp2
    go_ret
    exact ⟨rfl, XB.out⟩
  | false =>
    go_wp2_with fail
    refine (MV.out _ (HM.out.below X.1)).mono ?_
    rintro e w3 ⟨rfl, hb⟩
    replace X := X.to hb
    clear hr hb
    have hr := X.r3
    cases vm with
    | false =>
      have XB := hide X.1
      clear X
      go_wp2
      go_ret
      exact ⟨rfl, XB.out⟩
    | true =>
      go_wp2_with fail
      refine (T2.out _ (HM.out.below X.1) (tab_below HT.out X.1)).mono ?_
      rintro e w4 ⟨rfl, hb⟩
      replace X := (X.to hb).alloc #[.int .i64 0, .int .i64 0] 31
      clear hr hb
      have hr := X.r4
      have XB := hide X.1
      clear X
      go_wp2
      go_ret
      exact ⟨rfl, XB.out⟩
set_option maxRecDepth 100000 in
set_option maxHeartbeats 8000000 in
theorem deeper_ok (m : Msh) (a : MshA) (p q : Pnt) (u d wd n : Int) (w : World) (hm : MshSl w m a) (ht : Lib.TabIs Tryz.prog w "internal/strconv.uint64pow10" .u64 Lib.pow10Tab) (hn : 0 ≤ n ∧ n ≤ 65535) (hE : trE m p q u d wd = 0) :
    Calls Tryz.prog 4 #[m.val a, p.val, q.val, .int .i64 u, .int .i64 d, .int .i64 wd, .int .u16 n] w (RetW (.bool true) w) := by
  have AW := hide (fun W h => awake48_any W h)
  have WD := hide (fun W => wide48_any m a W)
  have MV := hide (fun W h => mrvalid_any m a W h)
  obtain ⟨hv, hp, hq, hne, hr0, hl⟩ := trE_ok hE
  obtain ⟨r1, r2, r3, r4⟩ := rngB_iff.1 hr0
  obtain ⟨u1, hu1⟩ : ∃ x, x = max (-4194304) (u - n) := ⟨_, rfl⟩
  obtain ⟨d1, hd1⟩ : ∃ x, x = max (-4194304) (d - n) := ⟨_, rfl⟩
  obtain ⟨wd1, hwd1⟩ : ∃ x, x = min 10000 (wd + n) := ⟨_, rfl⟩
  have ra : rngB u1 d1 wd = true := rngB_iff.2 ⟨by omega, by omega, by omega, by omega⟩
  have rb : rngB u d wd1 = true := rngB_iff.2 ⟨by omega, by omega, by omega, by omega⟩
  have rc : rngB 4194304 4194304 wd = true := rngB_iff.2 ⟨by omega, by omega, by omega, by omega⟩
  have ea := trE_of hE ra
  have eb := trE_of hE rb
  have ec := trE_of hE rc
  have T0 := hide (fun W h h' => cotrench_any m a p q u d wd W h h')
  have Ta := hide (fun W h h' => cotrench_any m a p q u1 d1 wd W h h')
  have Tb := hide (fun W h h' => cotrench_any m a p q u d wd1 W h h')
  have Tc := hide (fun W h h' => cotrench_any m a p q 4194304 4194304 wd W h h')
  rw [trR_of hE, hE] at T0
  rw [trR_of ea, ea] at Ta
  rw [trR_of eb, eb] at Tb
  rw [trR_of ec, ec, trS_none hv hl] at Tc
  obtain ⟨x0, x1⟩ := trS_ok hv hp hq hr0 hl
  obtain ⟨y0, y1⟩ := trS_deep hv hp hq hr0 hl (show u1 ≤ u by omega) (show d1 ≤ d by omega) (Int.le_refl wd)
  obtain ⟨z0, z1⟩ := trS_deep hv hp hq hr0 hl (Int.le_refl u) (Int.le_refl d) (show wd ≤ wd1 by omega)
  have Tc : Hid (∀ (W : World), MshSl W m a → Lib.TabIs Tryz.prog W "internal/strconv.uint64pow10" .u64 Lib.pow10Tab → Calls Tryz.prog 9 #[m.val a, p.val, q.val, .int .i64 4194304, .int .i64 4194304, .int .i64 wd] W (RetW (.tuple #[.agg #[.int .i64 0, .int .i64 0], .int .i64 0]) W)) := Tc
  rw [hv] at MV
  unfold RetW at AW MV T0 Ta Tb Tc
  generalize trS m p q u d wd = S at *
  generalize trS m p q u1 d1 wd = Sa at *
  generalize trS m p q u d wd1 = Sb at *
  have HM := hide hm
  have HT := hide ht
  have f1 : decide (S.lo < 0) = false := decide_eq_false (by omega)
  have f2 : decide (S.hi < S.lo) = false := decide_eq_false (by omega)
  have k1 : IntKind.i64.wrap n = n := IntWalk.i64_in _ (by omega)
  have k2 : IntKind.i64.wrap (u - n) = u - n := IntWalk.i64_in _ (by omega)
  have k3 : IntKind.i64.wrap (d - n) = d - n := IntWalk.i64_in _ (by omega)
  have k4 : IntKind.i64.wrap (wd + n) = wd + n := IntWalk.i64_in _ (by omega)
  obtain ⟨A1, c1, A2, c2⟩ := a
  have X := (((Own.start w).alloc #[.slice A1 m.ss.length c1, .slice A2 m.fs.length c2] 25).alloc #[.int .i64 p.x, .int .i64 p.y] 27).alloc #[.int .i64 q.x, .int .i64 q.y] 27
  simp only [World.size_alloc] at X
  have hr := X.r3
  clear hm ht hE hv hp hq hne hr0 hl r1 r2 r3 r4 ra rb rc ea eb ec
  rw [hu1, hd1] at Ta
  rw [hwd1] at Tb
  clear hu1 hd1 hwd1
  go_enter Tryz.func4, Tryz.ntmps4
  go_wp2_with fail
  refine (AW.out _ (tab_below HT.out X.1)).mono ?_
  rintro e w1 ⟨rfl, hb⟩
  replace X := X.to hb
  clear hr hb
  have hr := X.r3
  go_wp2_with fail
  refine (WD.out _).mono ?_
  rintro e w2 ⟨b, rfl, hb⟩
  replace X := X.to hb
  clear hr hb
  have hr := X.r3
  cases b with
  | true =>
    have XB := hide X.1
    clear X
    go_wp2
    go_ret
    exact ⟨rfl, XB.out⟩
  | false =>
    go_wp2_with fail
    refine (MV.out _ (HM.out.below X.1)).mono ?_
    rintro e w3 ⟨rfl, hb⟩
    replace X := X.to hb
    clear hr hb
    have hr := X.r3
    have n0 : w.heap.size + 1 + 1 < w3.heap.size := hr.1.2.2
    go_wp2_with fail
    refine (T0.out _ (HM.out.below X.1) (tab_below HT.out X.1)).mono ?_
    rintro e w4 ⟨rfl, hb⟩
    have n1 : w.heap.size + 1 + 1 < w4.heap.size := (X.to hb).r1.2.2
    replace X := (X.to hb).alloc #[.int .i64 S.lo, .int .i64 S.hi] 31
    clear hr hb
    have hr := X.r4
    go_wp2_with fail
    refine (Ta.out _ (HM.out.below X.1) (tab_below HT.out X.1)).mono ?_
    rintro e w5 ⟨rfl, hb⟩
    have n2 : w4.heap.size < w5.heap.size := (X.to hb).r1.2.2
    replace X := (X.to hb).alloc #[.int .i64 Sa.lo, .int .i64 Sa.hi] 31
    clear hr hb
    have hr := X.r5
    go_wp2_with fail
    refine (Tb.out _ (HM.out.below X.1) (tab_below HT.out X.1)).mono ?_
    rintro e w6 ⟨rfl, hb⟩
    have n3 : w5.heap.size < w6.heap.size := (X.to hb).r1.2.2
    replace X := (X.to hb).alloc #[.int .i64 Sb.lo, .int .i64 Sb.hi] 31
    clear hr hb
    have hr := X.r6
    go_wp2_with fail
    refine (Tc.out _ (HM.out.below X.1) (tab_below HT.out X.1)).mono ?_
    rintro e w7 ⟨rfl, hb⟩
    have n4 : w6.heap.size < w7.heap.size := (X.to hb).r1.2.2
    replace X := (X.to hb).alloc #[.int .i64 0, .int .i64 0] 31
    clear hr hb
    have hr := X.r7
    have XB := hide X.1
    have g1 : decide (S.lo ≤ Sa.lo) = true := decide_eq_true y0
    have g2 : decide (S.hi ≤ Sa.hi) = true := decide_eq_true y1
    have g3 : decide (S.lo ≤ Sb.lo) = true := decide_eq_true z0
    have g4 : decide (S.hi ≤ Sb.hi) = true := decide_eq_true z1
    clear X
    go_wp2
    go_ret
    exact ⟨rfl, XB.out⟩
theorem u16W {x : Int} (h : (Lit.int .u16 x).wf = true) : 0 ≤ x ∧ x ≤ 65535 := by
  simpa [Lit.wf, IntKind.min, IntKind.max, IntKind.signed, IntKind.bits] using h
theorem deeper_law (m : Msh) (a : MshA) (p q : Pnt) (u d wd n : Int) (w : World) (hm : MshSl w m a) (ht : Lib.TabIs Tryz.prog w "internal/strconv.uint64pow10" .u64 Lib.pow10Tab) (hn : 0 ≤ n ∧ n ≤ 65535) :
    Calls Tryz.prog 4 #[m.val a, p.val, q.val, .int .i64 u, .int .i64 d, .int .i64 wd, .int .u16 n] w (RetW (.bool true) w) := by
  by_cases hE : trE m p q u d wd = 0
  · exact deeper_ok m a p q u d wd n w hm ht hn hE
  · exact deeper_no m a p q u d wd n w hm ht hE
end Go.Proofs.YtbmocghfpcfmhaaGreatDoor
