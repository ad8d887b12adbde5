/- The reference's RightLink: what it returns; nothing that was there is turned. (Printed by gen_nrl.py.) -/
import Derived.Test.YtdcdfjinbieblaaGreatDoorPkCostsPipes21
namespace Go.Proofs.YtdcdfjinbieblaaGreatDoor
open Go Go.RowKit

set_option maxRecDepth 100000 in
set_option maxHeartbeats 2000000 in
theorem rlink_bad (l : Lnk) (w : World) (h1 : l.nm.size ≤ maxLen ∧ l.fr.size ≤ maxLen ∧ l.tn.size ≤ maxLen ∧ l.se.size ≤ maxLen) (hB : ((((((nameB l.nm.data.toList && nameB l.fr.data.toList) && nameB l.tn.data.toList) && !(l.fr.toList == l.tn.toList)) && inB (-4194304) 4194304 l.up) && inB (-4194304) 4194304 l.dn) = false)) : Calls Tryz.prog 34 #[.agg #[.string l.nm, .string l.fr, .string l.tn, .int .i64 l.kd, .int .i64 l.le, .int .i64 l.up, .int .i64 l.dn, .string l.se, .int .i64 l.wi, .int .i64 l.he, .slice l.cu.A l.cu.l.length l.cu.c]] w (RetW (.bool false) w) := by
  have N0 := hide (fun W => risname_any l.nm W h1.1)
  have N1 := hide (fun W => risname_any l.fr W h1.2.1)
  have N2 := hide (fun W => risname_any l.tn W h1.2.2.1)
  have N3 := hide (fun W => risname_any l.se W h1.2.2.2)
  have BU := hide (fun W => rlev_any l.up W)
  have BD := hide (fun W => rlev_any l.dn W)
  have X := (Own.start w).alloc #[.string l.nm, .string l.fr, .string l.tn, .int .i64 l.kd, .int .i64 l.le, .int .i64 l.up, .int .i64 l.dn, .string l.se, .int .i64 l.wi, .int .i64 l.he, .slice l.cu.A l.cu.l.length l.cu.c] 50
  have hr := X.r1
  replace X := hide X
  clear h1
  generalize nameB l.nm.data.toList = b0 at *
  generalize nameB l.fr.data.toList = b1 at *
  generalize nameB l.tn.data.toList = b2 at *
  generalize inB (-4194304) 4194304 l.up = b3 at *
  generalize inB (-4194304) 4194304 l.dn = b4 at *
  have ways : b0 = false ∨ (b0 = true ∧ b1 = false) ∨ (b0 = true ∧ b1 = true ∧ b2 = false) ∨ (b0 = true ∧ b1 = true ∧ b2 = true ∧ (l.fr.toList == l.tn.toList) = true) ∨ (b0 = true ∧ b1 = true ∧ b2 = true ∧ (l.fr.toList == l.tn.toList) = false ∧ b3 = false) ∨ (b0 = true ∧ b1 = true ∧ b2 = true ∧ (l.fr.toList == l.tn.toList) = false ∧ b3 = true ∧ b4 = false) := by
    revert hB
    generalize (l.fr.toList == l.tn.toList) = x
    cases b0 <;> cases b1 <;> cases b2 <;> cases x <;> cases b3 <;> cases b4 <;> simp
  clear hB
  rcases ways with rfl | ⟨rfl, rfl⟩ | ⟨rfl, rfl, rfl⟩ | ⟨rfl, rfl, rfl, q⟩ | ⟨rfl, rfl, rfl, q, rfl⟩ | ⟨rfl, rfl, rfl, q, rfl, rfl⟩
  ·
    go_enter Tryz.func34, Tryz.ntmps34
    go_wp2_with fail
    refine (N0.out _).mono ?_
    rintro e w' ⟨rfl, rfl⟩
    go_wp2
    go_ret
    exact ⟨rfl, X.out.1⟩
  ·
    go_enter Tryz.func34, Tryz.ntmps34
    go_wp2_with fail
    refine (N0.out _).mono ?_
    rintro e w' ⟨rfl, rfl⟩
    go_wp2_with fail
    refine (N1.out _).mono ?_
    rintro e w' ⟨rfl, rfl⟩
    go_wp2
    go_ret
    exact ⟨rfl, X.out.1⟩
  ·
    go_enter Tryz.func34, Tryz.ntmps34
    go_wp2_with fail
    refine (N0.out _).mono ?_
    rintro e w' ⟨rfl, rfl⟩
    go_wp2_with fail
    refine (N1.out _).mono ?_
    rintro e w' ⟨rfl, rfl⟩
    go_wp2_with fail
    refine (N2.out _).mono ?_
    rintro e w' ⟨rfl, rfl⟩
    go_wp2
    go_ret
    exact ⟨rfl, X.out.1⟩
  ·
    go_enter Tryz.func34, Tryz.ntmps34
    go_wp2_with fail
    refine (N0.out _).mono ?_
    rintro e w' ⟨rfl, rfl⟩
    go_wp2_with fail
    refine (N1.out _).mono ?_
    rintro e w' ⟨rfl, rfl⟩
    go_wp2_with fail
    refine (N2.out _).mono ?_
    rintro e w' ⟨rfl, rfl⟩
    go_wp2
    go_ret
    exact ⟨rfl, X.out.1⟩
  ·
    go_enter Tryz.func34, Tryz.ntmps34
    go_wp2_with fail
    refine (N0.out _).mono ?_
    rintro e w' ⟨rfl, rfl⟩
    go_wp2_with fail
    refine (N1.out _).mono ?_
    rintro e w' ⟨rfl, rfl⟩
    go_wp2_with fail
    refine (N2.out _).mono ?_
    rintro e w' ⟨rfl, rfl⟩
    go_wp2_with fail
    refine (BU.out _).mono ?_
    rintro e w' ⟨rfl, rfl⟩
    go_wp2
    go_ret
    exact ⟨rfl, X.out.1⟩
  ·
    go_enter Tryz.func34, Tryz.ntmps34
    go_wp2_with fail
    refine (N0.out _).mono ?_
    rintro e w' ⟨rfl, rfl⟩
    go_wp2_with fail
    refine (N1.out _).mono ?_
    rintro e w' ⟨rfl, rfl⟩
    go_wp2_with fail
    refine (N2.out _).mono ?_
    rintro e w' ⟨rfl, rfl⟩
    go_wp2_with fail
    refine (BU.out _).mono ?_
    rintro e w' ⟨rfl, rfl⟩
    go_wp2_with fail
    refine (BD.out _).mono ?_
    rintro e w' ⟨rfl, rfl⟩
    go_wp2
    go_ret
    exact ⟨rfl, X.out.1⟩
theorem len0 (n : Nat) : ((n : Int) == 0) = decide (n = 0) := by rw [Bool.eq_iff_iff]; simp
theorem seE (s : ByteArray) : s.toList.isEmpty = decide (s.size = 0) := by
  rw [ByteArray.toList_eq]
  by_cases h : s.size = 0
  · have e : s.data.toList = [] := List.eq_nil_of_length_eq_zero (by rw [Array.length_toList]; exact h)
    rw [e, decide_eq_true h]; rfl
  · rw [decide_eq_false h]
    cases e : s.data.toList with
    | nil => exact absurd (by have e2 := congrArg List.length e; rw [Array.length_toList] at e2; exact e2) h
    | cons x t => rfl
theorem len0' (n : Nat) : decide ((n : Int) = 0) = decide (n = 0) := by rw [Bool.eq_iff_iff]; simp
set_option maxRecDepth 100000 in
set_option maxHeartbeats 4000000 in
theorem rlink_1 (l : Lnk) (w : World) (h1 : l.nm.size ≤ maxLen ∧ l.fr.size ≤ maxLen ∧ l.tn.size ≤ maxLen ∧ l.se.size ≤ maxLen) (h2 : KnSl w l.cu.A l.cu.l) (hB : ((((((nameB l.nm.data.toList && nameB l.fr.data.toList) && nameB l.tn.data.toList) && !(l.fr.toList == l.tn.toList)) && inB (-4194304) 4194304 l.up) && inB (-4194304) 4194304 l.dn) = true)) (hk : l.kd = 1) : Calls Tryz.prog 34 #[.agg #[.string l.nm, .string l.fr, .string l.tn, .int .i64 l.kd, .int .i64 l.le, .int .i64 l.up, .int .i64 l.dn, .string l.se, .int .i64 l.wi, .int .i64 l.he, .slice l.cu.A l.cu.l.length l.cu.c]] w (RetW (.bool ((((inB 1 16777216 l.le && nameB l.se.data.toList) && (l.wi == 0)) && (l.he == 0)) && decide (l.cu.l.length = 0))) w) := by
  have N0 := hide (fun W => risname_any l.nm W h1.1)
  have N1 := hide (fun W => risname_any l.fr W h1.2.1)
  have N2 := hide (fun W => risname_any l.tn W h1.2.2.1)
  have N3 := hide (fun W => risname_any l.se W h1.2.2.2)
  have BU := hide (fun W => rlev_any l.up W)
  have BD := hide (fun W => rlev_any l.dn W)
  rw [hk]
  clear hk
  have C0 := hide (fun W => rwithin_any l.le 16777216 W)
  have L0 := len0 l.cu.l.length
  have L1 := len0' l.cu.l.length
  have hlen : l.cu.l.length ≤ 9223372036854775807 := by have := h2.1; unfold maxLen at this; omega
  have X := (Own.start w).alloc #[.string l.nm, .string l.fr, .string l.tn, .int .i64 1, .int .i64 l.le, .int .i64 l.up, .int .i64 l.dn, .string l.se, .int .i64 l.wi, .int .i64 l.he, .slice l.cu.A l.cu.l.length l.cu.c] 50
  have hr := X.r1
  replace X := hide X
  clear h1 h2
  have WY : (inB 1 16777216 l.le = false ∧ ((((inB 1 16777216 l.le && nameB l.se.data.toList) && (l.wi == 0)) && (l.he == 0)) && decide (l.cu.l.length = 0)) = false) ∨ (inB 1 16777216 l.le = true ∧ nameB l.se.data.toList = false ∧ ((((inB 1 16777216 l.le && nameB l.se.data.toList) && (l.wi == 0)) && (l.he == 0)) && decide (l.cu.l.length = 0)) = false) ∨ (inB 1 16777216 l.le = true ∧ nameB l.se.data.toList = true ∧ (l.wi == 0) = false ∧ ((((inB 1 16777216 l.le && nameB l.se.data.toList) && (l.wi == 0)) && (l.he == 0)) && decide (l.cu.l.length = 0)) = false) ∨ (inB 1 16777216 l.le = true ∧ nameB l.se.data.toList = true ∧ (l.wi == 0) = true ∧ (l.he == 0) = false ∧ ((((inB 1 16777216 l.le && nameB l.se.data.toList) && (l.wi == 0)) && (l.he == 0)) && decide (l.cu.l.length = 0)) = false) ∨ (inB 1 16777216 l.le = true ∧ nameB l.se.data.toList = true ∧ (l.wi == 0) = true ∧ (l.he == 0) = true ∧ ((((inB 1 16777216 l.le && nameB l.se.data.toList) && (l.wi == 0)) && (l.he == 0)) && decide (l.cu.l.length = 0)) = decide (l.cu.l.length = 0)) := by
    generalize inB 1 16777216 l.le = p0
    generalize nameB l.se.data.toList = p1
    generalize (l.wi == 0) = p2
    generalize (l.he == 0) = p3
    generalize decide (l.cu.l.length = 0) = p4
    revert p0 p1 p2 p3 p4
    decide
  generalize ((((inB 1 16777216 l.le && nameB l.se.data.toList) && (l.wi == 0)) && (l.he == 0)) && decide (l.cu.l.length = 0)) = v at *
  generalize inB 1 16777216 l.le = r0 at *
  generalize nameB l.se.data.toList = r1 at *
  generalize decide (l.cu.l.length = 0) = z at *
  replace WY := hide WY
  have hB2 : nameB l.nm.data.toList = true ∧ nameB l.fr.data.toList = true ∧ nameB l.tn.data.toList = true ∧ (l.fr.toList == l.tn.toList) = false ∧ inB (-4194304) 4194304 l.up = true ∧ inB (-4194304) 4194304 l.dn = true := by
    simp only [Bool.and_eq_true, Bool.not_eq_true'] at hB
    exact ⟨hB.1.1.1.1.1, hB.1.1.1.1.2, hB.1.1.1.2, hB.1.1.2, hB.1.2, hB.2⟩
  obtain ⟨hb0, hb1, hb2, q, hb3, hb4⟩ := hB2
  rw [hb0] at N0
  rw [hb1] at N1
  rw [hb2] at N2
  rw [hb3] at BU
  rw [hb4] at BD
  clear hb0 hb1 hb2 hb3 hb4 hB
  rcases WY.out with ⟨rfl, rfl⟩ | ⟨rfl, rfl, rfl⟩ | ⟨rfl, rfl, y2, rfl⟩ | ⟨rfl, rfl, y2, y3, rfl⟩ | ⟨rfl, rfl, y2, y3, rfl⟩
  ·
    clear WY
    go_enter Tryz.func34, Tryz.ntmps34
    go_wp2_with fail
    refine (N0.out _).mono ?_
    rintro e w' ⟨rfl, rfl⟩
    go_wp2_with fail
    refine (N1.out _).mono ?_
    rintro e w' ⟨rfl, rfl⟩
    go_wp2_with fail
    refine (N2.out _).mono ?_
    rintro e w' ⟨rfl, rfl⟩
    go_wp2_with fail
    refine (BU.out _).mono ?_
    rintro e w' ⟨rfl, rfl⟩
    go_wp2_with fail
    refine (BD.out _).mono ?_
    rintro e w' ⟨rfl, rfl⟩
    go_wp2_with fail
    refine (C0.out _).mono ?_
    rintro e w' ⟨rfl, rfl⟩
    go_wp2
    go_ret
    exact ⟨ret_bool (by simp), X.out.1⟩
  ·
    clear WY
    go_enter Tryz.func34, Tryz.ntmps34
    go_wp2_with fail
    refine (N0.out _).mono ?_
    rintro e w' ⟨rfl, rfl⟩
    go_wp2_with fail
    refine (N1.out _).mono ?_
    rintro e w' ⟨rfl, rfl⟩
    go_wp2_with fail
    refine (N2.out _).mono ?_
    rintro e w' ⟨rfl, rfl⟩
    go_wp2_with fail
    refine (BU.out _).mono ?_
    rintro e w' ⟨rfl, rfl⟩
    go_wp2_with fail
    refine (BD.out _).mono ?_
    rintro e w' ⟨rfl, rfl⟩
    go_wp2_with fail
    refine (C0.out _).mono ?_
    rintro e w' ⟨rfl, rfl⟩
    go_wp2_with fail
    refine (N3.out _).mono ?_
    rintro e w' ⟨rfl, rfl⟩
    go_wp2
    go_ret
    exact ⟨ret_bool (by simp), X.out.1⟩
  ·
    clear WY
    go_enter Tryz.func34, Tryz.ntmps34
    go_wp2_with fail
    refine (N0.out _).mono ?_
    rintro e w' ⟨rfl, rfl⟩
    go_wp2_with fail
    refine (N1.out _).mono ?_
    rintro e w' ⟨rfl, rfl⟩
    go_wp2_with fail
    refine (N2.out _).mono ?_
    rintro e w' ⟨rfl, rfl⟩
    go_wp2_with fail
    refine (BU.out _).mono ?_
    rintro e w' ⟨rfl, rfl⟩
    go_wp2_with fail
    refine (BD.out _).mono ?_
    rintro e w' ⟨rfl, rfl⟩
    go_wp2_with fail
    refine (C0.out _).mono ?_
    rintro e w' ⟨rfl, rfl⟩
    go_wp2_with fail
    refine (N3.out _).mono ?_
    rintro e w' ⟨rfl, rfl⟩
    go_wp2
    go_ret
    exact ⟨ret_bool (by simp), X.out.1⟩
  ·
    clear WY
    go_enter Tryz.func34, Tryz.ntmps34
    go_wp2_with fail
    refine (N0.out _).mono ?_
    rintro e w' ⟨rfl, rfl⟩
    go_wp2_with fail
    refine (N1.out _).mono ?_
    rintro e w' ⟨rfl, rfl⟩
    go_wp2_with fail
    refine (N2.out _).mono ?_
    rintro e w' ⟨rfl, rfl⟩
    go_wp2_with fail
    refine (BU.out _).mono ?_
    rintro e w' ⟨rfl, rfl⟩
    go_wp2_with fail
    refine (BD.out _).mono ?_
    rintro e w' ⟨rfl, rfl⟩
    go_wp2_with fail
    refine (C0.out _).mono ?_
    rintro e w' ⟨rfl, rfl⟩
    go_wp2_with fail
    refine (N3.out _).mono ?_
    rintro e w' ⟨rfl, rfl⟩
    go_wp2
    go_ret
    exact ⟨ret_bool (by simp), X.out.1⟩
  ·
    clear WY
    go_enter Tryz.func34, Tryz.ntmps34
    go_wp2_with fail
    refine (N0.out _).mono ?_
    rintro e w' ⟨rfl, rfl⟩
    go_wp2_with fail
    refine (N1.out _).mono ?_
    rintro e w' ⟨rfl, rfl⟩
    go_wp2_with fail
    refine (N2.out _).mono ?_
    rintro e w' ⟨rfl, rfl⟩
    go_wp2_with fail
    refine (BU.out _).mono ?_
    rintro e w' ⟨rfl, rfl⟩
    go_wp2_with fail
    refine (BD.out _).mono ?_
    rintro e w' ⟨rfl, rfl⟩
    go_wp2_with fail
    refine (C0.out _).mono ?_
    rintro e w' ⟨rfl, rfl⟩
    go_wp2_with fail
    refine (N3.out _).mono ?_
    rintro e w' ⟨rfl, rfl⟩
    go_wp2
    go_ret
    exact ⟨ret_bool (by simp), X.out.1⟩
set_option maxRecDepth 100000 in
set_option maxHeartbeats 4000000 in
theorem rlink_2 (l : Lnk) (w : World) (h1 : l.nm.size ≤ maxLen ∧ l.fr.size ≤ maxLen ∧ l.tn.size ≤ maxLen ∧ l.se.size ≤ maxLen) (h2 : KnSl w l.cu.A l.cu.l) (hB : ((((((nameB l.nm.data.toList && nameB l.fr.data.toList) && nameB l.tn.data.toList) && !(l.fr.toList == l.tn.toList)) && inB (-4194304) 4194304 l.up) && inB (-4194304) 4194304 l.dn) = true)) (hk : l.kd = 2) : Calls Tryz.prog 34 #[.agg #[.string l.nm, .string l.fr, .string l.tn, .int .i64 l.kd, .int .i64 l.le, .int .i64 l.up, .int .i64 l.dn, .string l.se, .int .i64 l.wi, .int .i64 l.he, .slice l.cu.A l.cu.l.length l.cu.c]] w (RetW (.bool ((((((l.le == 0) && (l.dn == 0)) && l.se.toList.isEmpty) && inB 1 1048576 l.wi) && (l.he == 0)) && decide (l.cu.l.length = 0))) w) := by
  have N0 := hide (fun W => risname_any l.nm W h1.1)
  have N1 := hide (fun W => risname_any l.fr W h1.2.1)
  have N2 := hide (fun W => risname_any l.tn W h1.2.2.1)
  have N3 := hide (fun W => risname_any l.se W h1.2.2.2)
  have BU := hide (fun W => rlev_any l.up W)
  have BD := hide (fun W => rlev_any l.dn W)
  rw [hk]
  clear hk
  have C0 := hide (fun W => rwithin_any l.wi 1048576 W)
  have L0 := len0 l.cu.l.length
  have L1 := len0' l.cu.l.length
  have hlen : l.cu.l.length ≤ 9223372036854775807 := by have := h2.1; unfold maxLen at this; omega
  have X := (Own.start w).alloc #[.string l.nm, .string l.fr, .string l.tn, .int .i64 2, .int .i64 l.le, .int .i64 l.up, .int .i64 l.dn, .string l.se, .int .i64 l.wi, .int .i64 l.he, .slice l.cu.A l.cu.l.length l.cu.c] 50
  have hr := X.r1
  replace X := hide X
  clear h1 h2
  have WY : ((l.le == 0) = false ∧ ((((((l.le == 0) && (l.dn == 0)) && l.se.toList.isEmpty) && inB 1 1048576 l.wi) && (l.he == 0)) && decide (l.cu.l.length = 0)) = false) ∨ ((l.le == 0) = true ∧ (l.dn == 0) = false ∧ ((((((l.le == 0) && (l.dn == 0)) && l.se.toList.isEmpty) && inB 1 1048576 l.wi) && (l.he == 0)) && decide (l.cu.l.length = 0)) = false) ∨ ((l.le == 0) = true ∧ (l.dn == 0) = true ∧ l.se.toList.isEmpty = false ∧ ((((((l.le == 0) && (l.dn == 0)) && l.se.toList.isEmpty) && inB 1 1048576 l.wi) && (l.he == 0)) && decide (l.cu.l.length = 0)) = false) ∨ ((l.le == 0) = true ∧ (l.dn == 0) = true ∧ l.se.toList.isEmpty = true ∧ inB 1 1048576 l.wi = false ∧ ((((((l.le == 0) && (l.dn == 0)) && l.se.toList.isEmpty) && inB 1 1048576 l.wi) && (l.he == 0)) && decide (l.cu.l.length = 0)) = false) ∨ ((l.le == 0) = true ∧ (l.dn == 0) = true ∧ l.se.toList.isEmpty = true ∧ inB 1 1048576 l.wi = true ∧ (l.he == 0) = false ∧ ((((((l.le == 0) && (l.dn == 0)) && l.se.toList.isEmpty) && inB 1 1048576 l.wi) && (l.he == 0)) && decide (l.cu.l.length = 0)) = false) ∨ ((l.le == 0) = true ∧ (l.dn == 0) = true ∧ l.se.toList.isEmpty = true ∧ inB 1 1048576 l.wi = true ∧ (l.he == 0) = true ∧ ((((((l.le == 0) && (l.dn == 0)) && l.se.toList.isEmpty) && inB 1 1048576 l.wi) && (l.he == 0)) && decide (l.cu.l.length = 0)) = decide (l.cu.l.length = 0)) := by
    generalize (l.le == 0) = p0
    generalize (l.dn == 0) = p1
    generalize l.se.toList.isEmpty = p2
    generalize inB 1 1048576 l.wi = p3
    generalize (l.he == 0) = p4
    generalize decide (l.cu.l.length = 0) = p5
    revert p0 p1 p2 p3 p4 p5
    decide
  generalize ((((((l.le == 0) && (l.dn == 0)) && l.se.toList.isEmpty) && inB 1 1048576 l.wi) && (l.he == 0)) && decide (l.cu.l.length = 0)) = v at *
  generalize inB 1 1048576 l.wi = r3 at *
  generalize decide (l.cu.l.length = 0) = z at *
  replace WY := hide WY
  have hB2 : nameB l.nm.data.toList = true ∧ nameB l.fr.data.toList = true ∧ nameB l.tn.data.toList = true ∧ (l.fr.toList == l.tn.toList) = false ∧ inB (-4194304) 4194304 l.up = true ∧ inB (-4194304) 4194304 l.dn = true := by
    simp only [Bool.and_eq_true, Bool.not_eq_true'] at hB
    exact ⟨hB.1.1.1.1.1, hB.1.1.1.1.2, hB.1.1.1.2, hB.1.1.2, hB.1.2, hB.2⟩
  obtain ⟨hb0, hb1, hb2, q, hb3, hb4⟩ := hB2
  rw [hb0] at N0
  rw [hb1] at N1
  rw [hb2] at N2
  rw [hb3] at BU
  rw [hb4] at BD
  clear hb0 hb1 hb2 hb3 hb4 hB
  rcases WY.out with ⟨y0, rfl⟩ | ⟨y0, y1, rfl⟩ | ⟨y0, y1, y2, rfl⟩ | ⟨y0, y1, y2, rfl, rfl⟩ | ⟨y0, y1, y2, rfl, y4, rfl⟩ | ⟨y0, y1, y2, rfl, y4, rfl⟩
  ·
    clear WY
    go_enter Tryz.func34, Tryz.ntmps34
    go_wp2_with fail
    refine (N0.out _).mono ?_
    rintro e w' ⟨rfl, rfl⟩
    go_wp2_with fail
    refine (N1.out _).mono ?_
    rintro e w' ⟨rfl, rfl⟩
    go_wp2_with fail
    refine (N2.out _).mono ?_
    rintro e w' ⟨rfl, rfl⟩
    go_wp2_with fail
    refine (BU.out _).mono ?_
    rintro e w' ⟨rfl, rfl⟩
    go_wp2_with fail
    refine (BD.out _).mono ?_
    rintro e w' ⟨rfl, rfl⟩
    go_wp2
    go_ret
    exact ⟨ret_bool (by simp), X.out.1⟩
  ·
    clear WY
    go_enter Tryz.func34, Tryz.ntmps34
    go_wp2_with fail
    refine (N0.out _).mono ?_
    rintro e w' ⟨rfl, rfl⟩
    go_wp2_with fail
    refine (N1.out _).mono ?_
    rintro e w' ⟨rfl, rfl⟩
    go_wp2_with fail
    refine (N2.out _).mono ?_
    rintro e w' ⟨rfl, rfl⟩
    go_wp2_with fail
    refine (BU.out _).mono ?_
    rintro e w' ⟨rfl, rfl⟩
    go_wp2_with fail
    refine (BD.out _).mono ?_
    rintro e w' ⟨rfl, rfl⟩
    go_wp2
    go_ret
    exact ⟨ret_bool (by simp), X.out.1⟩
  ·
    clear WY
    go_enter Tryz.func34, Tryz.ntmps34
    go_wp2_with fail
    refine (N0.out _).mono ?_
    rintro e w' ⟨rfl, rfl⟩
    go_wp2_with fail
    refine (N1.out _).mono ?_
    rintro e w' ⟨rfl, rfl⟩
    go_wp2_with fail
    refine (N2.out _).mono ?_
    rintro e w' ⟨rfl, rfl⟩
    go_wp2_with fail
    refine (BU.out _).mono ?_
    rintro e w' ⟨rfl, rfl⟩
    go_wp2_with fail
    refine (BD.out _).mono ?_
    rintro e w' ⟨rfl, rfl⟩
    go_wp2
    go_ret
    exact ⟨ret_bool (by simp), X.out.1⟩
  ·
    clear WY
    go_enter Tryz.func34, Tryz.ntmps34
    go_wp2_with fail
    refine (N0.out _).mono ?_
    rintro e w' ⟨rfl, rfl⟩
    go_wp2_with fail
    refine (N1.out _).mono ?_
    rintro e w' ⟨rfl, rfl⟩
    go_wp2_with fail
    refine (N2.out _).mono ?_
    rintro e w' ⟨rfl, rfl⟩
    go_wp2_with fail
    refine (BU.out _).mono ?_
    rintro e w' ⟨rfl, rfl⟩
    go_wp2_with fail
    refine (BD.out _).mono ?_
    rintro e w' ⟨rfl, rfl⟩
    go_wp2_with fail
    refine (C0.out _).mono ?_
    rintro e w' ⟨rfl, rfl⟩
    go_wp2
    go_ret
    exact ⟨ret_bool (by simp), X.out.1⟩
  ·
    clear WY
    go_enter Tryz.func34, Tryz.ntmps34
    go_wp2_with fail
    refine (N0.out _).mono ?_
    rintro e w' ⟨rfl, rfl⟩
    go_wp2_with fail
    refine (N1.out _).mono ?_
    rintro e w' ⟨rfl, rfl⟩
    go_wp2_with fail
    refine (N2.out _).mono ?_
    rintro e w' ⟨rfl, rfl⟩
    go_wp2_with fail
    refine (BU.out _).mono ?_
    rintro e w' ⟨rfl, rfl⟩
    go_wp2_with fail
    refine (BD.out _).mono ?_
    rintro e w' ⟨rfl, rfl⟩
    go_wp2_with fail
    refine (C0.out _).mono ?_
    rintro e w' ⟨rfl, rfl⟩
    go_wp2
    go_ret
    exact ⟨ret_bool (by simp), X.out.1⟩
  ·
    clear WY
    go_enter Tryz.func34, Tryz.ntmps34
    go_wp2_with fail
    refine (N0.out _).mono ?_
    rintro e w' ⟨rfl, rfl⟩
    go_wp2_with fail
    refine (N1.out _).mono ?_
    rintro e w' ⟨rfl, rfl⟩
    go_wp2_with fail
    refine (N2.out _).mono ?_
    rintro e w' ⟨rfl, rfl⟩
    go_wp2_with fail
    refine (BU.out _).mono ?_
    rintro e w' ⟨rfl, rfl⟩
    go_wp2_with fail
    refine (BD.out _).mono ?_
    rintro e w' ⟨rfl, rfl⟩
    go_wp2_with fail
    refine (C0.out _).mono ?_
    rintro e w' ⟨rfl, rfl⟩
    go_wp2
    go_ret
    exact ⟨ret_bool (by simp), X.out.1⟩
set_option maxRecDepth 100000 in
set_option maxHeartbeats 4000000 in
theorem rlink_3 (l : Lnk) (w : World) (h1 : l.nm.size ≤ maxLen ∧ l.fr.size ≤ maxLen ∧ l.tn.size ≤ maxLen ∧ l.se.size ≤ maxLen) (h2 : KnSl w l.cu.A l.cu.l) (hB : ((((((nameB l.nm.data.toList && nameB l.fr.data.toList) && nameB l.tn.data.toList) && !(l.fr.toList == l.tn.toList)) && inB (-4194304) 4194304 l.up) && inB (-4194304) 4194304 l.dn) = true)) (hk : l.kd = 3) : Calls Tryz.prog 34 #[.agg #[.string l.nm, .string l.fr, .string l.tn, .int .i64 l.kd, .int .i64 l.le, .int .i64 l.up, .int .i64 l.dn, .string l.se, .int .i64 l.wi, .int .i64 l.he, .slice l.cu.A l.cu.l.length l.cu.c]] w (RetW (.bool ((((((l.le == 0) && (l.dn == 0)) && l.se.toList.isEmpty) && inB 1 32768 l.wi) && inB 1 32768 l.he) && decide (l.cu.l.length = 0))) w) := by
  have N0 := hide (fun W => risname_any l.nm W h1.1)
  have N1 := hide (fun W => risname_any l.fr W h1.2.1)
  have N2 := hide (fun W => risname_any l.tn W h1.2.2.1)
  have N3 := hide (fun W => risname_any l.se W h1.2.2.2)
  have BU := hide (fun W => rlev_any l.up W)
  have BD := hide (fun W => rlev_any l.dn W)
  rw [hk]
  clear hk
  have C0 := hide (fun W => rwithin_any l.wi 32768 W)
  have C1 := hide (fun W => rwithin_any l.he 32768 W)
  have L0 := len0 l.cu.l.length
  have L1 := len0' l.cu.l.length
  have hlen : l.cu.l.length ≤ 9223372036854775807 := by have := h2.1; unfold maxLen at this; omega
  have X := (Own.start w).alloc #[.string l.nm, .string l.fr, .string l.tn, .int .i64 3, .int .i64 l.le, .int .i64 l.up, .int .i64 l.dn, .string l.se, .int .i64 l.wi, .int .i64 l.he, .slice l.cu.A l.cu.l.length l.cu.c] 50
  have hr := X.r1
  replace X := hide X
  clear h1 h2
  have WY : ((l.le == 0) = false ∧ ((((((l.le == 0) && (l.dn == 0)) && l.se.toList.isEmpty) && inB 1 32768 l.wi) && inB 1 32768 l.he) && decide (l.cu.l.length = 0)) = false) ∨ ((l.le == 0) = true ∧ (l.dn == 0) = false ∧ ((((((l.le == 0) && (l.dn == 0)) && l.se.toList.isEmpty) && inB 1 32768 l.wi) && inB 1 32768 l.he) && decide (l.cu.l.length = 0)) = false) ∨ ((l.le == 0) = true ∧ (l.dn == 0) = true ∧ l.se.toList.isEmpty = false ∧ ((((((l.le == 0) && (l.dn == 0)) && l.se.toList.isEmpty) && inB 1 32768 l.wi) && inB 1 32768 l.he) && decide (l.cu.l.length = 0)) = false) ∨ ((l.le == 0) = true ∧ (l.dn == 0) = true ∧ l.se.toList.isEmpty = true ∧ inB 1 32768 l.wi = false ∧ ((((((l.le == 0) && (l.dn == 0)) && l.se.toList.isEmpty) && inB 1 32768 l.wi) && inB 1 32768 l.he) && decide (l.cu.l.length = 0)) = false) ∨ ((l.le == 0) = true ∧ (l.dn == 0) = true ∧ l.se.toList.isEmpty = true ∧ inB 1 32768 l.wi = true ∧ inB 1 32768 l.he = false ∧ ((((((l.le == 0) && (l.dn == 0)) && l.se.toList.isEmpty) && inB 1 32768 l.wi) && inB 1 32768 l.he) && decide (l.cu.l.length = 0)) = false) ∨ ((l.le == 0) = true ∧ (l.dn == 0) = true ∧ l.se.toList.isEmpty = true ∧ inB 1 32768 l.wi = true ∧ inB 1 32768 l.he = true ∧ ((((((l.le == 0) && (l.dn == 0)) && l.se.toList.isEmpty) && inB 1 32768 l.wi) && inB 1 32768 l.he) && decide (l.cu.l.length = 0)) = decide (l.cu.l.length = 0)) := by
    generalize (l.le == 0) = p0
    generalize (l.dn == 0) = p1
    generalize l.se.toList.isEmpty = p2
    generalize inB 1 32768 l.wi = p3
    generalize inB 1 32768 l.he = p4
    generalize decide (l.cu.l.length = 0) = p5
    revert p0 p1 p2 p3 p4 p5
    decide
  generalize ((((((l.le == 0) && (l.dn == 0)) && l.se.toList.isEmpty) && inB 1 32768 l.wi) && inB 1 32768 l.he) && decide (l.cu.l.length = 0)) = v at *
  generalize inB 1 32768 l.wi = r3 at *
  generalize inB 1 32768 l.he = r4 at *
  generalize decide (l.cu.l.length = 0) = z at *
  replace WY := hide WY
  have hB2 : nameB l.nm.data.toList = true ∧ nameB l.fr.data.toList = true ∧ nameB l.tn.data.toList = true ∧ (l.fr.toList == l.tn.toList) = false ∧ inB (-4194304) 4194304 l.up = true ∧ inB (-4194304) 4194304 l.dn = true := by
    simp only [Bool.and_eq_true, Bool.not_eq_true'] at hB
    exact ⟨hB.1.1.1.1.1, hB.1.1.1.1.2, hB.1.1.1.2, hB.1.1.2, hB.1.2, hB.2⟩
  obtain ⟨hb0, hb1, hb2, q, hb3, hb4⟩ := hB2
  rw [hb0] at N0
  rw [hb1] at N1
  rw [hb2] at N2
  rw [hb3] at BU
  rw [hb4] at BD
  clear hb0 hb1 hb2 hb3 hb4 hB
  rcases WY.out with ⟨y0, rfl⟩ | ⟨y0, y1, rfl⟩ | ⟨y0, y1, y2, rfl⟩ | ⟨y0, y1, y2, rfl, rfl⟩ | ⟨y0, y1, y2, rfl, rfl, rfl⟩ | ⟨y0, y1, y2, rfl, rfl, rfl⟩
  ·
    clear WY
    go_enter Tryz.func34, Tryz.ntmps34
    go_wp2_with fail
    refine (N0.out _).mono ?_
    rintro e w' ⟨rfl, rfl⟩
    go_wp2_with fail
    refine (N1.out _).mono ?_
    rintro e w' ⟨rfl, rfl⟩
    go_wp2_with fail
    refine (N2.out _).mono ?_
    rintro e w' ⟨rfl, rfl⟩
    go_wp2_with fail
    refine (BU.out _).mono ?_
    rintro e w' ⟨rfl, rfl⟩
    go_wp2_with fail
    refine (BD.out _).mono ?_
    rintro e w' ⟨rfl, rfl⟩
    go_wp2
    go_ret
    exact ⟨ret_bool (by simp), X.out.1⟩
  ·
    clear WY
    go_enter Tryz.func34, Tryz.ntmps34
    go_wp2_with fail
    refine (N0.out _).mono ?_
    rintro e w' ⟨rfl, rfl⟩
    go_wp2_with fail
    refine (N1.out _).mono ?_
    rintro e w' ⟨rfl, rfl⟩
    go_wp2_with fail
    refine (N2.out _).mono ?_
    rintro e w' ⟨rfl, rfl⟩
    go_wp2_with fail
    refine (BU.out _).mono ?_
    rintro e w' ⟨rfl, rfl⟩
    go_wp2_with fail
    refine (BD.out _).mono ?_
    rintro e w' ⟨rfl, rfl⟩
    go_wp2
    go_ret
    exact ⟨ret_bool (by simp), X.out.1⟩
  ·
    clear WY
    go_enter Tryz.func34, Tryz.ntmps34
    go_wp2_with fail
    refine (N0.out _).mono ?_
    rintro e w' ⟨rfl, rfl⟩
    go_wp2_with fail
    refine (N1.out _).mono ?_
    rintro e w' ⟨rfl, rfl⟩
    go_wp2_with fail
    refine (N2.out _).mono ?_
    rintro e w' ⟨rfl, rfl⟩
    go_wp2_with fail
    refine (BU.out _).mono ?_
    rintro e w' ⟨rfl, rfl⟩
    go_wp2_with fail
    refine (BD.out _).mono ?_
    rintro e w' ⟨rfl, rfl⟩
    go_wp2
    go_ret
    exact ⟨ret_bool (by simp), X.out.1⟩
  ·
    clear WY
    go_enter Tryz.func34, Tryz.ntmps34
    go_wp2_with fail
    refine (N0.out _).mono ?_
    rintro e w' ⟨rfl, rfl⟩
    go_wp2_with fail
    refine (N1.out _).mono ?_
    rintro e w' ⟨rfl, rfl⟩
    go_wp2_with fail
    refine (N2.out _).mono ?_
    rintro e w' ⟨rfl, rfl⟩
    go_wp2_with fail
    refine (BU.out _).mono ?_
    rintro e w' ⟨rfl, rfl⟩
    go_wp2_with fail
    refine (BD.out _).mono ?_
    rintro e w' ⟨rfl, rfl⟩
    go_wp2_with fail
    refine (C0.out _).mono ?_
    rintro e w' ⟨rfl, rfl⟩
    go_wp2
    go_ret
    exact ⟨ret_bool (by simp), X.out.1⟩
  ·
    clear WY
    go_enter Tryz.func34, Tryz.ntmps34
    go_wp2_with fail
    refine (N0.out _).mono ?_
    rintro e w' ⟨rfl, rfl⟩
    go_wp2_with fail
    refine (N1.out _).mono ?_
    rintro e w' ⟨rfl, rfl⟩
    go_wp2_with fail
    refine (N2.out _).mono ?_
    rintro e w' ⟨rfl, rfl⟩
    go_wp2_with fail
    refine (BU.out _).mono ?_
    rintro e w' ⟨rfl, rfl⟩
    go_wp2_with fail
    refine (BD.out _).mono ?_
    rintro e w' ⟨rfl, rfl⟩
    go_wp2_with fail
    refine (C0.out _).mono ?_
    rintro e w' ⟨rfl, rfl⟩
    go_wp2_with fail
    refine (C1.out _).mono ?_
    rintro e w' ⟨rfl, rfl⟩
    go_wp2
    go_ret
    exact ⟨ret_bool (by simp), X.out.1⟩
  ·
    clear WY
    go_enter Tryz.func34, Tryz.ntmps34
    go_wp2_with fail
    refine (N0.out _).mono ?_
    rintro e w' ⟨rfl, rfl⟩
    go_wp2_with fail
    refine (N1.out _).mono ?_
    rintro e w' ⟨rfl, rfl⟩
    go_wp2_with fail
    refine (N2.out _).mono ?_
    rintro e w' ⟨rfl, rfl⟩
    go_wp2_with fail
    refine (BU.out _).mono ?_
    rintro e w' ⟨rfl, rfl⟩
    go_wp2_with fail
    refine (BD.out _).mono ?_
    rintro e w' ⟨rfl, rfl⟩
    go_wp2_with fail
    refine (C0.out _).mono ?_
    rintro e w' ⟨rfl, rfl⟩
    go_wp2_with fail
    refine (C1.out _).mono ?_
    rintro e w' ⟨rfl, rfl⟩
    go_wp2
    go_ret
    exact ⟨ret_bool (by simp), X.out.1⟩
set_option maxRecDepth 100000 in
set_option maxHeartbeats 4000000 in
theorem rlink_4 (l : Lnk) (w : World) (h1 : l.nm.size ≤ maxLen ∧ l.fr.size ≤ maxLen ∧ l.tn.size ≤ maxLen ∧ l.se.size ≤ maxLen) (h2 : KnSl w l.cu.A l.cu.l) (hB : ((((((nameB l.nm.data.toList && nameB l.fr.data.toList) && nameB l.tn.data.toList) && !(l.fr.toList == l.tn.toList)) && inB (-4194304) 4194304 l.up) && inB (-4194304) 4194304 l.dn) = true)) (hk : l.kd = 4) : Calls Tryz.prog 34 #[.agg #[.string l.nm, .string l.fr, .string l.tn, .int .i64 l.kd, .int .i64 l.le, .int .i64 l.up, .int .i64 l.dn, .string l.se, .int .i64 l.wi, .int .i64 l.he, .slice l.cu.A l.cu.l.length l.cu.c]] w (RetW (.bool ((((((l.le == 0) && decide (l.dn < l.up)) && l.se.toList.isEmpty) && (l.wi == 0)) && (l.he == 0)) && curB l.cu.l)) w) := by
  have N0 := hide (fun W => risname_any l.nm W h1.1)
  have N1 := hide (fun W => risname_any l.fr W h1.2.1)
  have N2 := hide (fun W => risname_any l.tn W h1.2.2.1)
  have N3 := hide (fun W => risname_any l.se W h1.2.2.2)
  have BU := hide (fun W => rlev_any l.up W)
  have BD := hide (fun W => rlev_any l.dn W)
  rw [hk]
  clear hk
  have CU := hide (fun W h => rcurve_any l.cu.l l.cu.A l.cu.c W h)
  unfold RetW at CU
  have HS := hide h2
  have L0 := len0 l.cu.l.length
  have L1 := len0' l.cu.l.length
  have hlen : l.cu.l.length ≤ 9223372036854775807 := by have := h2.1; unfold maxLen at this; omega
  have X := (Own.start w).alloc #[.string l.nm, .string l.fr, .string l.tn, .int .i64 4, .int .i64 l.le, .int .i64 l.up, .int .i64 l.dn, .string l.se, .int .i64 l.wi, .int .i64 l.he, .slice l.cu.A l.cu.l.length l.cu.c] 50
  have hr := X.r1
  replace X := hide X
  clear h1 h2
  have WY : ((l.le == 0) = false ∧ ((((((l.le == 0) && decide (l.dn < l.up)) && l.se.toList.isEmpty) && (l.wi == 0)) && (l.he == 0)) && curB l.cu.l) = false) ∨ ((l.le == 0) = true ∧ decide (l.dn < l.up) = false ∧ ((((((l.le == 0) && decide (l.dn < l.up)) && l.se.toList.isEmpty) && (l.wi == 0)) && (l.he == 0)) && curB l.cu.l) = false) ∨ ((l.le == 0) = true ∧ decide (l.dn < l.up) = true ∧ l.se.toList.isEmpty = false ∧ ((((((l.le == 0) && decide (l.dn < l.up)) && l.se.toList.isEmpty) && (l.wi == 0)) && (l.he == 0)) && curB l.cu.l) = false) ∨ ((l.le == 0) = true ∧ decide (l.dn < l.up) = true ∧ l.se.toList.isEmpty = true ∧ (l.wi == 0) = false ∧ ((((((l.le == 0) && decide (l.dn < l.up)) && l.se.toList.isEmpty) && (l.wi == 0)) && (l.he == 0)) && curB l.cu.l) = false) ∨ ((l.le == 0) = true ∧ decide (l.dn < l.up) = true ∧ l.se.toList.isEmpty = true ∧ (l.wi == 0) = true ∧ (l.he == 0) = false ∧ ((((((l.le == 0) && decide (l.dn < l.up)) && l.se.toList.isEmpty) && (l.wi == 0)) && (l.he == 0)) && curB l.cu.l) = false) ∨ ((l.le == 0) = true ∧ decide (l.dn < l.up) = true ∧ l.se.toList.isEmpty = true ∧ (l.wi == 0) = true ∧ (l.he == 0) = true ∧ ((((((l.le == 0) && decide (l.dn < l.up)) && l.se.toList.isEmpty) && (l.wi == 0)) && (l.he == 0)) && curB l.cu.l) = curB l.cu.l) := by
    generalize (l.le == 0) = p0
    generalize decide (l.dn < l.up) = p1
    generalize l.se.toList.isEmpty = p2
    generalize (l.wi == 0) = p3
    generalize (l.he == 0) = p4
    generalize curB l.cu.l = p5
    revert p0 p1 p2 p3 p4 p5
    decide
  generalize ((((((l.le == 0) && decide (l.dn < l.up)) && l.se.toList.isEmpty) && (l.wi == 0)) && (l.he == 0)) && curB l.cu.l) = v at *
  generalize curB l.cu.l = r5 at *
  replace WY := hide WY
  have hB2 : nameB l.nm.data.toList = true ∧ nameB l.fr.data.toList = true ∧ nameB l.tn.data.toList = true ∧ (l.fr.toList == l.tn.toList) = false ∧ inB (-4194304) 4194304 l.up = true ∧ inB (-4194304) 4194304 l.dn = true := by
    simp only [Bool.and_eq_true, Bool.not_eq_true'] at hB
    exact ⟨hB.1.1.1.1.1, hB.1.1.1.1.2, hB.1.1.1.2, hB.1.1.2, hB.1.2, hB.2⟩
  obtain ⟨hb0, hb1, hb2, q, hb3, hb4⟩ := hB2
  rw [hb0] at N0
  rw [hb1] at N1
  rw [hb2] at N2
  rw [hb3] at BU
  rw [hb4] at BD
  clear hb0 hb1 hb2 hb3 hb4 hB
  rcases WY.out with ⟨y0, rfl⟩ | ⟨y0, y1, rfl⟩ | ⟨y0, y1, y2, rfl⟩ | ⟨y0, y1, y2, y3, rfl⟩ | ⟨y0, y1, y2, y3, y4, rfl⟩ | ⟨y0, y1, y2, y3, y4, rfl⟩
  ·
    clear WY
    go_enter Tryz.func34, Tryz.ntmps34
    go_wp2_with fail
    refine (N0.out _).mono ?_
    rintro e w' ⟨rfl, rfl⟩
    go_wp2_with fail
    refine (N1.out _).mono ?_
    rintro e w' ⟨rfl, rfl⟩
    go_wp2_with fail
    refine (N2.out _).mono ?_
    rintro e w' ⟨rfl, rfl⟩
    go_wp2_with fail
    refine (BU.out _).mono ?_
    rintro e w' ⟨rfl, rfl⟩
    go_wp2_with fail
    refine (BD.out _).mono ?_
    rintro e w' ⟨rfl, rfl⟩
    go_wp2
    go_ret
    exact ⟨ret_bool (by simp), X.out.1⟩
  ·
    clear WY
    go_enter Tryz.func34, Tryz.ntmps34
    go_wp2_with fail
    refine (N0.out _).mono ?_
    rintro e w' ⟨rfl, rfl⟩
    go_wp2_with fail
    refine (N1.out _).mono ?_
    rintro e w' ⟨rfl, rfl⟩
    go_wp2_with fail
    refine (N2.out _).mono ?_
    rintro e w' ⟨rfl, rfl⟩
    go_wp2_with fail
    refine (BU.out _).mono ?_
    rintro e w' ⟨rfl, rfl⟩
    go_wp2_with fail
    refine (BD.out _).mono ?_
    rintro e w' ⟨rfl, rfl⟩
    go_wp2
    go_ret
    exact ⟨ret_bool (by simp), X.out.1⟩
  ·
    clear WY
    go_enter Tryz.func34, Tryz.ntmps34
    go_wp2_with fail
    refine (N0.out _).mono ?_
    rintro e w' ⟨rfl, rfl⟩
    go_wp2_with fail
    refine (N1.out _).mono ?_
    rintro e w' ⟨rfl, rfl⟩
    go_wp2_with fail
    refine (N2.out _).mono ?_
    rintro e w' ⟨rfl, rfl⟩
    go_wp2_with fail
    refine (BU.out _).mono ?_
    rintro e w' ⟨rfl, rfl⟩
    go_wp2_with fail
    refine (BD.out _).mono ?_
    rintro e w' ⟨rfl, rfl⟩
    go_wp2
    go_ret
    exact ⟨ret_bool (by simp), X.out.1⟩
  ·
    clear WY
    go_enter Tryz.func34, Tryz.ntmps34
    go_wp2_with fail
    refine (N0.out _).mono ?_
    rintro e w' ⟨rfl, rfl⟩
    go_wp2_with fail
    refine (N1.out _).mono ?_
    rintro e w' ⟨rfl, rfl⟩
    go_wp2_with fail
    refine (N2.out _).mono ?_
    rintro e w' ⟨rfl, rfl⟩
    go_wp2_with fail
    refine (BU.out _).mono ?_
    rintro e w' ⟨rfl, rfl⟩
    go_wp2_with fail
    refine (BD.out _).mono ?_
    rintro e w' ⟨rfl, rfl⟩
    go_wp2
    go_ret
    exact ⟨ret_bool (by simp), X.out.1⟩
  ·
    clear WY
    go_enter Tryz.func34, Tryz.ntmps34
    go_wp2_with fail
    refine (N0.out _).mono ?_
    rintro e w' ⟨rfl, rfl⟩
    go_wp2_with fail
    refine (N1.out _).mono ?_
    rintro e w' ⟨rfl, rfl⟩
    go_wp2_with fail
    refine (N2.out _).mono ?_
    rintro e w' ⟨rfl, rfl⟩
    go_wp2_with fail
    refine (BU.out _).mono ?_
    rintro e w' ⟨rfl, rfl⟩
    go_wp2_with fail
    refine (BD.out _).mono ?_
    rintro e w' ⟨rfl, rfl⟩
    go_wp2
    go_ret
    exact ⟨ret_bool (by simp), X.out.1⟩
  ·
    clear WY
    go_enter Tryz.func34, Tryz.ntmps34
    go_wp2_with fail
    refine (N0.out _).mono ?_
    rintro e w' ⟨rfl, rfl⟩
    go_wp2_with fail
    refine (N1.out _).mono ?_
    rintro e w' ⟨rfl, rfl⟩
    go_wp2_with fail
    refine (N2.out _).mono ?_
    rintro e w' ⟨rfl, rfl⟩
    go_wp2_with fail
    refine (BU.out _).mono ?_
    rintro e w' ⟨rfl, rfl⟩
    go_wp2_with fail
    refine (BD.out _).mono ?_
    rintro e w' ⟨rfl, rfl⟩
    go_wp2_with fail
    refine (CU.out _ (HS.out.below X.out.1)).mono ?_
    rintro e w' ⟨rfl, hb⟩
    replace X := hide (X.out.to hb)
    clear hb
    go_wp2
    go_ret
    exact ⟨ret_bool (by simp), X.out.1⟩
set_option maxRecDepth 100000 in
set_option maxHeartbeats 4000000 in
theorem rlink_o (l : Lnk) (w : World) (h1 : l.nm.size ≤ maxLen ∧ l.fr.size ≤ maxLen ∧ l.tn.size ≤ maxLen ∧ l.se.size ≤ maxLen) (h2 : KnSl w l.cu.A l.cu.l) (hB : ((((((nameB l.nm.data.toList && nameB l.fr.data.toList) && nameB l.tn.data.toList) && !(l.fr.toList == l.tn.toList)) && inB (-4194304) 4194304 l.up) && inB (-4194304) 4194304 l.dn) = true)) (k1 : (l.kd == 1) = false) (k2 : (l.kd == 2) = false) (k3 : (l.kd == 3) = false) (k4 : (l.kd == 4) = false) : Calls Tryz.prog 34 #[.agg #[.string l.nm, .string l.fr, .string l.tn, .int .i64 l.kd, .int .i64 l.le, .int .i64 l.up, .int .i64 l.dn, .string l.se, .int .i64 l.wi, .int .i64 l.he, .slice l.cu.A l.cu.l.length l.cu.c]] w (RetW (.bool false) w) := by
  have N0 := hide (fun W => risname_any l.nm W h1.1)
  have N1 := hide (fun W => risname_any l.fr W h1.2.1)
  have N2 := hide (fun W => risname_any l.tn W h1.2.2.1)
  have N3 := hide (fun W => risname_any l.se W h1.2.2.2)
  have BU := hide (fun W => rlev_any l.up W)
  have BD := hide (fun W => rlev_any l.dn W)
  have L0 := len0 l.cu.l.length
  have L1 := len0' l.cu.l.length
  have hlen : l.cu.l.length ≤ 9223372036854775807 := by have := h2.1; unfold maxLen at this; omega
  have X := (Own.start w).alloc #[.string l.nm, .string l.fr, .string l.tn, .int .i64 l.kd, .int .i64 l.le, .int .i64 l.up, .int .i64 l.dn, .string l.se, .int .i64 l.wi, .int .i64 l.he, .slice l.cu.A l.cu.l.length l.cu.c] 50
  have hr := X.r1
  replace X := hide X
  clear h1 h2
  have hB2 : nameB l.nm.data.toList = true ∧ nameB l.fr.data.toList = true ∧ nameB l.tn.data.toList = true ∧ (l.fr.toList == l.tn.toList) = false ∧ inB (-4194304) 4194304 l.up = true ∧ inB (-4194304) 4194304 l.dn = true := by
    simp only [Bool.and_eq_true, Bool.not_eq_true'] at hB
    exact ⟨hB.1.1.1.1.1, hB.1.1.1.1.2, hB.1.1.1.2, hB.1.1.2, hB.1.2, hB.2⟩
  obtain ⟨hb0, hb1, hb2, q, hb3, hb4⟩ := hB2
  rw [hb0] at N0
  rw [hb1] at N1
  rw [hb2] at N2
  rw [hb3] at BU
  rw [hb4] at BD
  clear hb0 hb1 hb2 hb3 hb4 hB
  clear L0 L1
  go_enter Tryz.func34, Tryz.ntmps34
  go_wp2_with fail
  refine (N0.out _).mono ?_
  rintro e w' ⟨rfl, rfl⟩
  go_wp2_with fail
  refine (N1.out _).mono ?_
  rintro e w' ⟨rfl, rfl⟩
  go_wp2_with fail
  refine (N2.out _).mono ?_
  rintro e w' ⟨rfl, rfl⟩
  go_wp2_with fail
  refine (BU.out _).mono ?_
  rintro e w' ⟨rfl, rfl⟩
  go_wp2_with fail
  refine (BD.out _).mono ?_
  rintro e w' ⟨rfl, rfl⟩
  go_wp2
  go_ret
  exact ⟨rfl, X.out.1⟩
theorem beq0' (x : Int) : (x == 0) = decide (x = 0) := by rw [Bool.eq_iff_iff]; simp
theorem rlink_any (l : Lnk) (w : World) (h1 : l.nm.size ≤ maxLen ∧ l.fr.size ≤ maxLen ∧ l.tn.size ≤ maxLen ∧ l.se.size ≤ maxLen) (h2 : KnSl w l.cu.A l.cu.l) : Calls Tryz.prog 34 #[l.val] w (RetW (.bool (lnkB l)) w) := by
  unfold lnkB
  cases hB : (((((nameB l.nm.data.toList && nameB l.fr.data.toList) && nameB l.tn.data.toList) && !(l.fr.toList == l.tn.toList)) && inB (-4194304) 4194304 l.up) && inB (-4194304) 4194304 l.dn) with
  | false => rw [Bool.false_and]; exact rlink_bad l w h1 hB
  | true =>
    rw [Bool.true_and]
    by_cases k1 : l.kd = 1
    · have q := rlink_1 l w h1 h2 hB k1
      rw [beq0', beq0'] at q
      rw [if_pos k1]; exact q
    · rw [if_neg k1]
      by_cases k2 : l.kd = 2
      · have q := rlink_2 l w h1 h2 hB k2
        rw [beq0', beq0', beq0', seE] at q
        rw [if_pos k2]; exact q
      · rw [if_neg k2]
        by_cases k3 : l.kd = 3
        · have q := rlink_3 l w h1 h2 hB k3
          rw [beq0', beq0', seE] at q
          rw [if_pos k3]; exact q
        · rw [if_neg k3]
          by_cases k4 : l.kd = 4
          · have q := rlink_4 l w h1 h2 hB k4
            rw [beq0', beq0', beq0', seE] at q
            rw [if_pos k4]; exact q
          · rw [if_neg k4]
            exact rlink_o l w h1 h2 hB (by simpa using k1) (by simpa using k2) (by simpa using k3) (by simpa using k4)
end Go.Proofs.YtdcdfjinbieblaaGreatDoor
