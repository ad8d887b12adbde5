/- The reference's RightNode: what it returns; nothing that was there is turned. (Printed by gen_nrf.py.) -/
import Derived.Test.YtdcdfjinbieblaaGreatDoorPkCostsPipes21
import Derived.Test.YtdcdfjinbieblaaGreatDoorPkCostsPipes20
namespace Go.Proofs.YtdcdfjinbieblaaGreatDoor
open Go Go.RowKit

set_option maxRecDepth 100000 in
set_option maxHeartbeats 2000000 in
theorem rnode_bad (n : Nod) (w : World) (h1 : n.nm.size ≤ maxLen) (hB : (((((nameB n.nm.data.toList && inB (-16777216) 16777216 n.x) && inB (-16777216) 16777216 n.y) && inB (-4194304) 4194304 n.iv) && inB (-4194304) 4194304 n.gr) = false)) : Calls Tryz.prog 32 #[n.val] w (RetW (.bool false) w) := by
  have NB := hide (fun W => risname_any n.nm W h1)
  have BX := hide (fun W => rpos_any n.x W)
  have BY := hide (fun W => rpos_any n.y W)
  have BI := hide (fun W => rlev_any n.iv W)
  have BG := hide (fun W => rlev_any n.gr W)
  have X := (Own.start w).alloc #[.string n.nm, .int .i64 n.kd, .int .i64 n.x, .int .i64 n.y, .int .i64 n.iv, .int .i64 n.gr, .slice n.sh.A n.sh.l.length n.sh.c, .bool n.pro, .int .i64 n.re] 71
  have hr := X.r1
  replace X := hide X
  clear h1
  generalize nameB n.nm.data.toList = b0 at *
  generalize inB (-16777216) 16777216 n.x = b1 at *
  generalize inB (-16777216) 16777216 n.y = b2 at *
  generalize inB (-4194304) 4194304 n.iv = b3 at *
  generalize inB (-4194304) 4194304 n.gr = b4 at *
  have ways : b0 = false ∨ (b0 = true ∧ b1 = false) ∨ (b0 = true ∧ b1 = true ∧ b2 = false) ∨ (b0 = true ∧ b1 = true ∧ b2 = true ∧ b3 = false) ∨ (b0 = true ∧ b1 = true ∧ b2 = true ∧ b3 = true ∧ b4 = false) := by cases b0 <;> cases b1 <;> cases b2 <;> cases b3 <;> cases b4 <;> simp at hB ⊢
  clear hB
  rcases ways with rfl | ⟨rfl, rfl⟩ | ⟨rfl, rfl, rfl⟩ | ⟨rfl, rfl, rfl, rfl⟩ | ⟨rfl, rfl, rfl, rfl, rfl⟩
  ·
    go_enter Tryz.func32, Tryz.ntmps32
    go_wp2_with fail
    refine (NB.out _).mono ?_
    rintro e w' ⟨rfl, rfl⟩
    go_wp2
    go_ret
    exact ⟨rfl, X.out.1⟩
  ·
    go_enter Tryz.func32, Tryz.ntmps32
    go_wp2_with fail
    refine (NB.out _).mono ?_
    rintro e w' ⟨rfl, rfl⟩
    go_wp2_with fail
    refine (BX.out _).mono ?_
    rintro e w' ⟨rfl, rfl⟩
    go_wp2
    go_ret
    exact ⟨rfl, X.out.1⟩
  ·
    go_enter Tryz.func32, Tryz.ntmps32
    go_wp2_with fail
    refine (NB.out _).mono ?_
    rintro e w' ⟨rfl, rfl⟩
    go_wp2_with fail
    refine (BX.out _).mono ?_
    rintro e w' ⟨rfl, rfl⟩
    go_wp2_with fail
    refine (BY.out _).mono ?_
    rintro e w' ⟨rfl, rfl⟩
    go_wp2
    go_ret
    exact ⟨rfl, X.out.1⟩
  ·
    go_enter Tryz.func32, Tryz.ntmps32
    go_wp2_with fail
    refine (NB.out _).mono ?_
    rintro e w' ⟨rfl, rfl⟩
    go_wp2_with fail
    refine (BX.out _).mono ?_
    rintro e w' ⟨rfl, rfl⟩
    go_wp2_with fail
    refine (BY.out _).mono ?_
    rintro e w' ⟨rfl, rfl⟩
    go_wp2_with fail
    refine (BI.out _).mono ?_
    rintro e w' ⟨rfl, rfl⟩
    go_wp2
    go_ret
    exact ⟨rfl, X.out.1⟩
  ·
    go_enter Tryz.func32, Tryz.ntmps32
    go_wp2_with fail
    refine (NB.out _).mono ?_
    rintro e w' ⟨rfl, rfl⟩
    go_wp2_with fail
    refine (BX.out _).mono ?_
    rintro e w' ⟨rfl, rfl⟩
    go_wp2_with fail
    refine (BY.out _).mono ?_
    rintro e w' ⟨rfl, rfl⟩
    go_wp2_with fail
    refine (BI.out _).mono ?_
    rintro e w' ⟨rfl, rfl⟩
    go_wp2_with fail
    refine (BG.out _).mono ?_
    rintro e w' ⟨rfl, rfl⟩
    go_wp2
    go_ret
    exact ⟨rfl, X.out.1⟩
set_option maxRecDepth 100000 in
set_option maxHeartbeats 2000000 in
theorem rnode_other (n : Nod) (w : World) (h1 : n.nm.size ≤ maxLen) (h2 : KnSl w n.sh.A n.sh.l) (hB : (((((nameB n.nm.data.toList && inB (-16777216) 16777216 n.x) && inB (-16777216) 16777216 n.y) && inB (-4194304) 4194304 n.iv) && inB (-4194304) 4194304 n.gr) = true)) (k1 : (n.kd == 1) = false) (k2 : (n.kd == 2) = false) (k3 : (n.kd == 3) = false) : Calls Tryz.prog 32 #[n.val] w (RetW (.bool false) w) := by
  have NB := hide (fun W => risname_any n.nm W h1)
  have BX := hide (fun W => rpos_any n.x W)
  have BY := hide (fun W => rpos_any n.y W)
  have BI := hide (fun W => rlev_any n.iv W)
  have BG := hide (fun W => rlev_any n.gr W)
  have D1 : IntKind.i64.wrap (n.gr - n.iv) = n.gr - n.iv := by
    simp only [inB, Bool.and_eq_true, decide_eq_true_eq] at hB
    exact IntWalk.i64_in _ (by omega)
  have SH := hide (fun W h => rshape_any n.sh.l n.sh.A n.sh.c (n.gr - n.iv) W h)
  unfold RetW at SH
  obtain ⟨dd, hdd⟩ : ∃ dd, dd = n.gr - n.iv := ⟨_, rfl⟩
  rw [← hdd] at SH
  have D2 : IntKind.i64.wrap (n.gr - n.iv) = dd := D1.trans hdd.symm
  clear D1
  have HS := hide h2
  clear SH HS D2 hdd
  have X := (Own.start w).alloc #[.string n.nm, .int .i64 n.kd, .int .i64 n.x, .int .i64 n.y, .int .i64 n.iv, .int .i64 n.gr, .slice n.sh.A n.sh.l.length n.sh.c, .bool n.pro, .int .i64 n.re] 71
  have hr := X.r1
  have XL := hide X
  clear X
  clear h1 h2
  generalize nameB n.nm.data.toList = b0 at *
  generalize inB (-16777216) 16777216 n.x = b1 at *
  generalize inB (-16777216) 16777216 n.y = b2 at *
  generalize inB (-4194304) 4194304 n.iv = b3 at *
  generalize inB (-4194304) 4194304 n.gr = b4 at *
  obtain ⟨rfl, rfl, rfl, rfl, rfl⟩ : b0 = true ∧ b1 = true ∧ b2 = true ∧ b3 = true ∧ b4 = true := by cases b0 <;> cases b1 <;> cases b2 <;> cases b3 <;> cases b4 <;> simp at hB ⊢
  clear hB
  go_enter Tryz.func32, Tryz.ntmps32
  go_wp2_with fail
  refine (NB.out _).mono ?_
  rintro e w' ⟨rfl, rfl⟩
  go_wp2_with fail
  refine (BX.out _).mono ?_
  rintro e w' ⟨rfl, rfl⟩
  go_wp2_with fail
  refine (BY.out _).mono ?_
  rintro e w' ⟨rfl, rfl⟩
  go_wp2_with fail
  refine (BI.out _).mono ?_
  rintro e w' ⟨rfl, rfl⟩
  go_wp2_with fail
  refine (BG.out _).mono ?_
  rintro e w' ⟨rfl, rfl⟩
  go_wp2
  go_ret
  exact ⟨rfl, XL.out.1⟩
set_option maxRecDepth 100000 in
set_option maxHeartbeats 2000000 in
theorem rnode_out (n : Nod) (w : World) (h1 : n.nm.size ≤ maxLen) (h2 : KnSl w n.sh.A n.sh.l) (hB : (((((nameB n.nm.data.toList && inB (-16777216) 16777216 n.x) && inB (-16777216) 16777216 n.y) && inB (-4194304) 4194304 n.iv) && inB (-4194304) 4194304 n.gr) = true)) (hk : n.kd = 3) : Calls Tryz.prog 32 #[n.val] w (RetW (.bool (decide (n.iv ≤ n.gr) && decide (n.sh.l.length = 0) && !n.pro && decide (n.re = 0))) w) := by
  have NB := hide (fun W => risname_any n.nm W h1)
  have BX := hide (fun W => rpos_any n.x W)
  have BY := hide (fun W => rpos_any n.y W)
  have BI := hide (fun W => rlev_any n.iv W)
  have BG := hide (fun W => rlev_any n.gr W)
  have D1 : IntKind.i64.wrap (n.gr - n.iv) = n.gr - n.iv := by
    simp only [inB, Bool.and_eq_true, decide_eq_true_eq] at hB
    exact IntWalk.i64_in _ (by omega)
  have SH := hide (fun W h => rshape_any n.sh.l n.sh.A n.sh.c (n.gr - n.iv) W h)
  unfold RetW at SH
  obtain ⟨dd, hdd⟩ : ∃ dd, dd = n.gr - n.iv := ⟨_, rfl⟩
  rw [← hdd] at SH
  have D2 : IntKind.i64.wrap (n.gr - n.iv) = dd := D1.trans hdd.symm
  clear D1
  have HS := hide h2
  have WY := ways_and3 (decide (n.iv ≤ n.gr)) (decide (n.sh.l.length = 0)) n.pro (decide (n.re = 0))
  have hlen : n.sh.l.length ≤ 9223372036854775807 := by have := h2.1; unfold maxLen at this; omega
  have L0 : decide ((n.sh.l.length : Int) = 0) = decide (n.sh.l.length = 0) := by
    rw [Bool.eq_iff_iff]; simp only [decide_eq_true_eq]; omega
  have L1 : ((n.sh.l.length : Int) == 0) = decide (n.sh.l.length = 0) := by
    rw [Bool.eq_iff_iff]; simp only [decide_eq_true_eq, beq_iff_eq]; omega
  have R1 : (n.re == 0) = decide (n.re = 0) := by
    rw [Bool.eq_iff_iff]; simp only [decide_eq_true_eq, beq_iff_eq]
  clear SH HS D2 hdd
  show Calls Tryz.prog _ #[.agg #[.string n.nm, .int .i64 n.kd, .int .i64 n.x, .int .i64 n.y, .int .i64 n.iv, .int .i64 n.gr, .slice n.sh.A n.sh.l.length n.sh.c, .bool n.pro, .int .i64 n.re]] w _
  rw [hk]
  generalize (decide (n.iv ≤ n.gr) && decide (n.sh.l.length = 0) && !n.pro && decide (n.re = 0)) = v at *
  generalize decide (n.sh.l.length = 0) = c1 at *
  generalize n.pro = PR at *
  replace WY := hide WY
  have X := (Own.start w).alloc #[.string n.nm, .int .i64 3, .int .i64 n.x, .int .i64 n.y, .int .i64 n.iv, .int .i64 n.gr, .slice n.sh.A n.sh.l.length n.sh.c, .bool PR, .int .i64 n.re] 71
  have hr := X.r1
  have XL := hide X
  clear X
  clear h1 h2
  generalize nameB n.nm.data.toList = b0 at *
  generalize inB (-16777216) 16777216 n.x = b1 at *
  generalize inB (-16777216) 16777216 n.y = b2 at *
  generalize inB (-4194304) 4194304 n.iv = b3 at *
  generalize inB (-4194304) 4194304 n.gr = b4 at *
  obtain ⟨rfl, rfl, rfl, rfl, rfl⟩ : b0 = true ∧ b1 = true ∧ b2 = true ∧ b3 = true ∧ b4 = true := by cases b0 <;> cases b1 <;> cases b2 <;> cases b3 <;> cases b4 <;> simp at hB ⊢
  clear hB
  go_enter Tryz.func32, Tryz.ntmps32
  go_wp2_with fail
  refine (NB.out _).mono ?_
  rintro e w' ⟨rfl, rfl⟩
  go_wp2_with fail
  refine (BX.out _).mono ?_
  rintro e w' ⟨rfl, rfl⟩
  go_wp2_with fail
  refine (BY.out _).mono ?_
  rintro e w' ⟨rfl, rfl⟩
  go_wp2_with fail
  refine (BI.out _).mono ?_
  rintro e w' ⟨rfl, rfl⟩
  go_wp2_with fail
  refine (BG.out _).mono ?_
  rintro e w' ⟨rfl, rfl⟩
  rcases WY.out with ⟨q0, rfl⟩ | ⟨q0, q1, rfl⟩ | ⟨q0, q1, q2, rfl⟩ | ⟨q0, q1, q2, rfl⟩
  all_goals
    clear WY
    try subst q2
    go_wp2
    go_ret
    exact ⟨ret_bool (by simp), XL.out.1⟩
set_option maxRecDepth 100000 in
set_option maxHeartbeats 2000000 in
theorem rnode_man (n : Nod) (w : World) (h1 : n.nm.size ≤ maxLen) (h2 : KnSl w n.sh.A n.sh.l) (hB : (((((nameB n.nm.data.toList && inB (-16777216) 16777216 n.x) && inB (-16777216) 16777216 n.y) && inB (-4194304) 4194304 n.iv) && inB (-4194304) 4194304 n.gr) = true)) (hk : n.kd = 1) : Calls Tryz.prog 32 #[n.val] w (RetW (.bool (!decide (n.gr ≤ n.iv) && shpB n.sh.l (n.gr - n.iv) 1125899906842624 && (if n.pro then false else decide (n.re = 0)))) w) := by
  have NB := hide (fun W => risname_any n.nm W h1)
  have BX := hide (fun W => rpos_any n.x W)
  have BY := hide (fun W => rpos_any n.y W)
  have BI := hide (fun W => rlev_any n.iv W)
  have BG := hide (fun W => rlev_any n.gr W)
  have D1 : IntKind.i64.wrap (n.gr - n.iv) = n.gr - n.iv := by
    simp only [inB, Bool.and_eq_true, decide_eq_true_eq] at hB
    exact IntWalk.i64_in _ (by omega)
  have SH := hide (fun W h => rshape_any n.sh.l n.sh.A n.sh.c (n.gr - n.iv) W h)
  unfold RetW at SH
  obtain ⟨dd, hdd⟩ : ∃ dd, dd = n.gr - n.iv := ⟨_, rfl⟩
  rw [← hdd] at SH
  have D2 : IntKind.i64.wrap (n.gr - n.iv) = dd := D1.trans hdd.symm
  clear D1
  have HS := hide h2
  have FL := lt_flip n.iv n.gr
  have R1 : (n.re == 0) = decide (n.re = 0) := by
    rw [Bool.eq_iff_iff]; simp only [decide_eq_true_eq, beq_iff_eq]
  show Calls Tryz.prog _ #[.agg #[.string n.nm, .int .i64 n.kd, .int .i64 n.x, .int .i64 n.y, .int .i64 n.iv, .int .i64 n.gr, .slice n.sh.A n.sh.l.length n.sh.c, .bool n.pro, .int .i64 n.re]] w _
  rw [hk]
  have WY := ways_man (decide (n.iv < n.gr)) (shpB n.sh.l (n.gr - n.iv) 1125899906842624) n.pro (decide (n.re = 0))
  rw [FL] at WY
  generalize (!decide (n.gr ≤ n.iv) && shpB n.sh.l (n.gr - n.iv) 1125899906842624 && (if n.pro then false else decide (n.re = 0))) = v at *
  clear FL
  rw [← hdd] at WY
  clear hdd
  generalize shpB n.sh.l dd 1125899906842624 = sh at *
  generalize n.pro = PR at *
  replace WY := hide WY
  have X := (Own.start w).alloc #[.string n.nm, .int .i64 1, .int .i64 n.x, .int .i64 n.y, .int .i64 n.iv, .int .i64 n.gr, .slice n.sh.A n.sh.l.length n.sh.c, .bool PR, .int .i64 n.re] 71
  have hr := X.r1
  have XL := hide X
  clear X
  clear h1 h2
  generalize nameB n.nm.data.toList = b0 at *
  generalize inB (-16777216) 16777216 n.x = b1 at *
  generalize inB (-16777216) 16777216 n.y = b2 at *
  generalize inB (-4194304) 4194304 n.iv = b3 at *
  generalize inB (-4194304) 4194304 n.gr = b4 at *
  obtain ⟨rfl, rfl, rfl, rfl, rfl⟩ : b0 = true ∧ b1 = true ∧ b2 = true ∧ b3 = true ∧ b4 = true := by cases b0 <;> cases b1 <;> cases b2 <;> cases b3 <;> cases b4 <;> simp at hB ⊢
  clear hB
  go_enter Tryz.func32, Tryz.ntmps32
  go_wp2_with fail
  refine (NB.out _).mono ?_
  rintro e w' ⟨rfl, rfl⟩
  go_wp2_with fail
  refine (BX.out _).mono ?_
  rintro e w' ⟨rfl, rfl⟩
  go_wp2_with fail
  refine (BY.out _).mono ?_
  rintro e w' ⟨rfl, rfl⟩
  go_wp2_with fail
  refine (BI.out _).mono ?_
  rintro e w' ⟨rfl, rfl⟩
  go_wp2_with fail
  refine (BG.out _).mono ?_
  rintro e w' ⟨rfl, rfl⟩
  rcases WY.out with ⟨q0, rfl⟩ | ⟨q0, rfl, rfl⟩ | ⟨q0, rfl, q1, rfl⟩ | ⟨q0, rfl, q1, rfl⟩
  · replace q0 : decide (n.gr ≤ n.iv) = true := by simpa using q0
    go_wp2
    go_ret
    exact ⟨rfl, XL.out.1⟩
  rotate_left
  rotate_left
  all_goals
    replace q0 : decide (n.gr ≤ n.iv) = false := by simpa using q0
    clear WY
    try subst q1
    go_wp2_with fail
    refine (SH.out _ (HS.out.below XL.out.1)).mono ?_
    rintro e w2 ⟨rfl, hb⟩
    replace XL := hide (XL.out.to hb)
    clear hb hr
    have hr := XL.out.r1
  rotate_left
  rotate_left
  · have NE : Nonempty (OwnW w [(w.heap.size, 71, #[.string n.nm, .int .i64 1, .int .i64 n.x, .int .i64 n.y, .int .i64 n.iv, .int .i64 n.gr, .slice n.sh.A n.sh.l.length n.sh.c, .bool true, .int .i64 n.re])]) := ⟨⟨_, XL.out⟩⟩
    have C1 := fun z : OwnW w [(w.heap.size, 71, #[.string n.nm, .int .i64 1, .int .i64 n.x, .int .i64 n.y, .int .i64 n.iv, .int .i64 n.gr, .slice n.sh.A n.sh.l.length n.sh.c, .bool true, .int .i64 n.re])] => z.own.r1
    go_wp2_with fail
    refine wp_region_own (w := w) (L := [(w.heap.size, 71, #[.string n.nm, .int .i64 1, .int .i64 n.x, .int .i64 n.y, .int .i64 n.iv, .int .i64 n.gr, .slice n.sh.A n.sh.l.length n.sh.c, .bool true, .int .i64 n.re])]) (by kernel_rfl) (by kernel_rfl) XL.out ?_
    repeat (go_big_quiet_step (fail))
    refine wpQuiet_nil ?_
    rintro _ ⟨⟨W, HX⟩, rfl⟩
    replace HX := hide HX
    go_wp2
    go_ret
    exact ⟨rfl, HX.out.1⟩
  all_goals
    go_wp2
    go_ret
    exact ⟨ret_bool (by simp), XL.out.1⟩
set_option maxRecDepth 100000 in
set_option maxHeartbeats 2000000 in
theorem rnode_tank (n : Nod) (w : World) (h1 : n.nm.size ≤ maxLen) (h2 : KnSl w n.sh.A n.sh.l) (hB : (((((nameB n.nm.data.toList && inB (-16777216) 16777216 n.x) && inB (-16777216) 16777216 n.y) && inB (-4194304) 4194304 n.iv) && inB (-4194304) 4194304 n.gr) = true)) (hk : n.kd = 2) : Calls Tryz.prog 32 #[n.val] w (RetW (.bool (!decide (n.gr ≤ n.iv) && shpB n.sh.l (n.gr - n.iv) 1125899906842624 && (if n.pro then inB 0 (n.sh.l.getD (n.sh.l.length - 1) ⟨0, 0⟩).y n.re else decide (n.re = 0)))) w) := by
  have NB := hide (fun W => risname_any n.nm W h1)
  have BX := hide (fun W => rpos_any n.x W)
  have BY := hide (fun W => rpos_any n.y W)
  have BI := hide (fun W => rlev_any n.iv W)
  have BG := hide (fun W => rlev_any n.gr W)
  have D1 : IntKind.i64.wrap (n.gr - n.iv) = n.gr - n.iv := by
    simp only [inB, Bool.and_eq_true, decide_eq_true_eq] at hB
    exact IntWalk.i64_in _ (by omega)
  have SH := hide (fun W h => rshape_any n.sh.l n.sh.A n.sh.c (n.gr - n.iv) W h)
  unfold RetW at SH
  obtain ⟨dd, hdd⟩ : ∃ dd, dd = n.gr - n.iv := ⟨_, rfl⟩
  rw [← hdd] at SH
  have D2 : IntKind.i64.wrap (n.gr - n.iv) = dd := D1.trans hdd.symm
  clear D1
  have HS := hide h2
  have FL := lt_flip n.iv n.gr
  have R1 : (n.re == 0) = decide (n.re = 0) := by
    rw [Bool.eq_iff_iff]; simp only [decide_eq_true_eq, beq_iff_eq]
  show Calls Tryz.prog _ #[.agg #[.string n.nm, .int .i64 n.kd, .int .i64 n.x, .int .i64 n.y, .int .i64 n.iv, .int .i64 n.gr, .slice n.sh.A n.sh.l.length n.sh.c, .bool n.pro, .int .i64 n.re]] w _
  rw [hk]
  have WY := ways_tank (decide (n.iv < n.gr)) (shpB n.sh.l (n.gr - n.iv) 1125899906842624) n.pro (inB 0 (n.sh.l.getD (n.sh.l.length - 1) ⟨0, 0⟩).y n.re) (decide (n.re = 0))
  have LY := hide (fun (h : shpB n.sh.l (n.gr - n.iv) 1125899906842624 = true) => kn_last n.sh.l n.sh.A w h2 (by
    unfold shpB at h
    simp only [Bool.and_eq_true] at h
    exact h.1.1))
  rw [FL] at WY
  generalize (n.sh.l.getD (n.sh.l.length - 1) ⟨0, 0⟩).y = ly at *
  generalize (!decide (n.gr ≤ n.iv) && shpB n.sh.l (n.gr - n.iv) 1125899906842624 && (if n.pro then inB 0 ly n.re else decide (n.re = 0))) = v at *
  clear FL
  have IB : Hid (inB 0 ly n.re = (decide (0 ≤ n.re) && decide (n.re ≤ ly))) := hide rfl
  rw [← hdd] at WY LY
  clear hdd
  generalize shpB n.sh.l dd 1125899906842624 = sh at *
  generalize inB 0 ly n.re = ib at *
  generalize n.pro = PR at *
  replace WY := hide WY
  have X := (Own.start w).alloc #[.string n.nm, .int .i64 2, .int .i64 n.x, .int .i64 n.y, .int .i64 n.iv, .int .i64 n.gr, .slice n.sh.A n.sh.l.length n.sh.c, .bool PR, .int .i64 n.re] 71
  have hr := X.r1
  have XL := hide X
  clear X
  clear h1 h2
  generalize nameB n.nm.data.toList = b0 at *
  generalize inB (-16777216) 16777216 n.x = b1 at *
  generalize inB (-16777216) 16777216 n.y = b2 at *
  generalize inB (-4194304) 4194304 n.iv = b3 at *
  generalize inB (-4194304) 4194304 n.gr = b4 at *
  obtain ⟨rfl, rfl, rfl, rfl, rfl⟩ : b0 = true ∧ b1 = true ∧ b2 = true ∧ b3 = true ∧ b4 = true := by cases b0 <;> cases b1 <;> cases b2 <;> cases b3 <;> cases b4 <;> simp at hB ⊢
  clear hB
  go_enter Tryz.func32, Tryz.ntmps32
  go_wp2_with fail
  refine (NB.out _).mono ?_
  rintro e w' ⟨rfl, rfl⟩
  go_wp2_with fail
  refine (BX.out _).mono ?_
  rintro e w' ⟨rfl, rfl⟩
  go_wp2_with fail
  refine (BY.out _).mono ?_
  rintro e w' ⟨rfl, rfl⟩
  go_wp2_with fail
  refine (BI.out _).mono ?_
  rintro e w' ⟨rfl, rfl⟩
  go_wp2_with fail
  refine (BG.out _).mono ?_
  rintro e w' ⟨rfl, rfl⟩
  rcases WY.out with ⟨q0, rfl⟩ | ⟨q0, rfl, rfl⟩ | ⟨q0, rfl, q1, rfl⟩ | ⟨q0, rfl, q1, rfl⟩
  · replace q0 : decide (n.gr ≤ n.iv) = true := by simpa using q0
    clear LY
    go_wp2
    go_ret
    exact ⟨rfl, XL.out.1⟩
  rotate_left
  rotate_left
  all_goals
    replace q0 : decide (n.gr ≤ n.iv) = false := by simpa using q0
    clear WY
    try subst q1
    have LZ := LY
    clear LY
    go_wp2_with fail
    refine (SH.out _ (HS.out.below XL.out.1)).mono ?_
    rintro e w2 ⟨rfl, hb⟩
    replace XL := hide (XL.out.to hb)
    clear hb hr
    have hr := XL.out.r1
  rotate_left
  rotate_left
  · obtain ⟨b, off, j, hA, hbl, g0, g1, g2, cy⟩ := LZ.out (by trivial)
    rw [hA] at XL hr
    rw [hA]
    have NE : Nonempty (OwnW w [(w.heap.size, 71, #[.string n.nm, .int .i64 2, .int .i64 n.x, .int .i64 n.y, .int .i64 n.iv, .int .i64 n.gr, .slice (some ⟨b, off, none⟩) n.sh.l.length n.sh.c, .bool true, .int .i64 n.re])]) := ⟨⟨_, XL.out⟩⟩
    have C1 := fun z : OwnW w [(w.heap.size, 71, #[.string n.nm, .int .i64 2, .int .i64 n.x, .int .i64 n.y, .int .i64 n.iv, .int .i64 n.gr, .slice (some ⟨b, off, none⟩) n.sh.l.length n.sh.c, .bool true, .int .i64 n.re])] => z.own.r1
    have C2 := fun z : OwnW w [(w.heap.size, 71, #[.string n.nm, .int .i64 2, .int .i64 n.x, .int .i64 n.y, .int .i64 n.iv, .int .i64 n.gr, .slice (some ⟨b, off, none⟩) n.sh.l.length n.sh.c, .bool true, .int .i64 n.re])] => (z.own.1.cell (p := ⟨b, off + j * 2 + 1, none⟩) hbl).trans cy
    clear LZ cy
    cases hp : decide (0 ≤ n.re)
    all_goals
      rw [hp] at IB
      go_wp2_with fail
      refine wp_region_own (w := w) (L := [(w.heap.size, 71, #[.string n.nm, .int .i64 2, .int .i64 n.x, .int .i64 n.y, .int .i64 n.iv, .int .i64 n.gr, .slice (some ⟨b, off, none⟩) n.sh.l.length n.sh.c, .bool true, .int .i64 n.re])]) (by kernel_rfl) (by kernel_rfl) XL.out ?_
      repeat (go_big_quiet_step (fail))
      refine wpQuiet_nil ?_
      rintro _ ⟨⟨W, HX⟩, rfl⟩
      replace HX := hide HX
      go_wp2
      go_ret
      exact ⟨ret_bool (by rw [IB.out]; simp), HX.out.1⟩
  all_goals
    clear LZ
    go_wp2
    go_ret
    exact ⟨ret_bool (by simp), XL.out.1⟩
theorem rnode_any (n : Nod) (w : World) (h1 : n.nm.size ≤ maxLen) (h2 : KnSl w n.sh.A n.sh.l) : Calls Tryz.prog 32 #[n.val] w (RetW (.bool (nodB n)) w) := by
  have e : nodB n = (((((nameB n.nm.data.toList && inB (-16777216) 16777216 n.x) && inB (-16777216) 16777216 n.y) && inB (-4194304) 4194304 n.iv) && inB (-4194304) 4194304 n.gr) && ndK n.kd n.gr n.iv n.pro n.re (decide (n.sh.l.length = 0)) (shpB n.sh.l (n.gr - n.iv) 1125899906842624) (n.sh.l.getD (n.sh.l.length - 1) ⟨0, 0⟩).y) := by
    rw [nodB_eq]; simp only [Bool.and_assoc]
  rw [e]
  cases hB : ((((nameB n.nm.data.toList && inB (-16777216) 16777216 n.x) && inB (-16777216) 16777216 n.y) && inB (-4194304) 4194304 n.iv) && inB (-4194304) 4194304 n.gr) with
  | false => rw [Bool.false_and]; exact rnode_bad n w h1 hB
  | true =>
      rw [Bool.true_and]
      by_cases k3 : n.kd = 3
      · have q := rnode_out n w h1 h2 hB k3
        unfold ndK
        rw [if_pos k3]
        exact q
      · by_cases k1 : n.kd = 1
        · have q := rnode_man n w h1 h2 hB k1
          unfold ndK
          rw [if_neg k3, if_pos (.inl k1), lt_flip, k1]
          exact q
        · by_cases k2 : n.kd = 2
          · have q := rnode_tank n w h1 h2 hB k2
            unfold ndK
            rw [if_neg k3, if_pos (.inr k2), lt_flip, k2]
            exact q
          · have q := rnode_other n w h1 h2 hB (by simpa using k1) (by simpa using k2) (by simpa using k3)
            unfold ndK
            rw [if_neg k3, if_neg (by rintro (h | h); exact k1 h; exact k2 h)]
            exact q
end Go.Proofs.YtdcdfjinbieblaaGreatDoor
