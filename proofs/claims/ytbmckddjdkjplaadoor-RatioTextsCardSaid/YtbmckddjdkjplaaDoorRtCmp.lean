/- The program's Cmp, Floor, Ceil: what each returns; nothing that was there is turned. -/
import Derived.Test.YtbmckddjdkjplaaDoorRtOps
namespace Go.Proofs.YtbmckddjdkjplaaDoor
open Go.RowKit

/-- a number and an error -/
def RetIE (n er : Int) (w : World) (e : Ending) (w' : World) : Prop := e = .returned (.tuple #[.int .i64 n, .int .i64 er]) ∧ Below w.heap.size w w'
theorem RetIE.mk {n n' er er' : Int} {w w' : World} (hb : Below w.heap.size w w') (h1 : n = n') (h2 : er = er') : RetIE n er w (.returned (.tuple #[.int .i64 n', .int .i64 er'])) w' := by subst h1 h2; exact ⟨rfl, hb⟩
def ifV (a : Fr) (x y : Int) : Int := if vF a = true then x else y
theorem ifV_yes {a : Fr} (h : vF a = true) (x y : Int) : ifV a x y = x := by simp [ifV, h]
theorem ifV_no {a : Fr} (h : vF a = false) (x y : Int) : ifV a x y = y := by simp [ifV, h]
theorem tmod_flF {a : Fr} (h : 0 < a.den) : (decide (a.num.tmod a.den < 0) = true ∧ a.num.tdiv a.den - 1 = flF a) ∨ (decide (a.num.tmod a.den < 0) = false ∧ a.num.tdiv a.den = flF a) := by
  have e1 := Int.mul_tdiv_add_tmod a.num a.den
  have e2 := Int.mul_ediv_add_emod a.num a.den
  have e3 := Int.emod_nonneg a.num (show a.den ≠ 0 by omega)
  have e4 := Int.emod_lt_of_pos a.num h
  have b1 : a.num.tmod a.den < a.den := by have := Int.tmod_lt_of_pos a.num h; omega
  have b2 : -a.den < a.num.tmod a.den := by
    have := Int.lt_tmod_of_pos a.num h
    omega
  unfold flF
  generalize a.num.tmod a.den = r at *
  generalize a.num.tdiv a.den = q at *
  generalize a.num % a.den = s at *
  generalize a.num / a.den = p at *
  have key : ∀ k : Int, a.den * k < a.den → -a.den < a.den * k → k = 0 := by
    intro k k1 k2
    rcases Int.lt_trichotomy k 0 with h1 | h1 | h1
    · have : a.den * k ≤ a.den * (-1) := Int.mul_le_mul_of_nonneg_left (by omega) (by omega)
      omega
    · exact h1
    · have : a.den * 1 ≤ a.den * k := Int.mul_le_mul_of_nonneg_left (by omega) (by omega)
      omega
  by_cases hr : r < 0
  · refine .inl ⟨decide_eq_true hr, ?_⟩
    have e : a.den * (q - 1 - p) = s - (r + a.den) := by rw [Int.mul_sub, Int.mul_sub]; omega
    have := key (q - 1 - p) (by omega) (by omega)
    omega
  · refine .inr ⟨decide_eq_false hr, ?_⟩
    have e : a.den * (q - p) = s - r := by rw [Int.mul_sub]; omega
    have := key (q - p) (by omega) (by omega)
    omega
set_option maxRecDepth 100000 in
set_option maxHeartbeats 1000000 in
theorem floor_any (a : Fr) (w : World) : Calls Tryd.prog 22 #[a.val] w (RetIE (ifV a (flF a) 0) (ifV a 0 1) w) := by
  have X := (Own.start w).alloc #[.int .i64 a.num, .int .i64 a.den] 24
  rcases Bool.eq_false_or_eq_true (vF a) with ha | ha
  rotate_left
  · rw [ifV_no ha, ifV_no ha]
    go_enter Tryd.func22, Tryd.ntmps22
    go_wp2_with fail
    refine (rvalid_any a _).mono ?_
    rintro e w1 ⟨rfl, hb⟩
    replace X := X.to hb
    clear hb
    have hr := X.r1
    rw [ha]
    go_wp2
    go_ret2
    exact ⟨rfl, X.1⟩
  rw [ifV_yes ha, ifV_yes ha]
  have hb0 := (vF_iff.1 ha).1
  have b := fl_spec ha
  obtain ⟨k1, k2, k3, k4⟩ := hb0
  have hd0 : a.den ≠ 0 := by omega
  have T := tmod_flF (a := a) (by omega)
  have bq : -1073741825 ≤ a.num.tdiv a.den ∧ a.num.tdiv a.den ≤ 1073741825 := by
    rcases T with ⟨_, h⟩ | ⟨_, h⟩ <;> omega
  obtain ⟨q1, q2⟩ := bq
  have B := hide b
  clear b
  rcases T with ⟨c1, c2⟩ | ⟨c1, c2⟩
  all_goals
    generalize hq : a.num.tdiv a.den = q at *
    generalize hrr : a.num.tmod a.den = r at *
    go_enter Tryd.func22, Tryd.ntmps22
    go_wp2_with fail
    refine (rvalid_any a _).mono ?_
    rintro e w1 ⟨rfl, hb⟩
    replace X := X.to hb
    clear hb
    have hr := X.r1
    rw [ha]
    go_wp2
    go_ret2
    exact ⟨by first | rfl | (rw [c2]), X.1⟩
set_option maxRecDepth 100000 in
set_option maxHeartbeats 1000000 in
theorem ceil_any (a : Fr) (w : World) : Calls Tryd.prog 23 #[a.val] w (RetIE (ifV a (ceF a) 0) (ifV a 0 1) w) := by
  have X := (Own.start w).alloc #[.int .i64 a.num, .int .i64 a.den] 24
  rcases Bool.eq_false_or_eq_true (vF a) with ha | ha
  rotate_left
  · rw [ifV_no ha, ifV_no ha]
    go_enter Tryd.func23, Tryd.ntmps23
    go_wp2_with fail
    refine (rvalid_any a _).mono ?_
    rintro e w1 ⟨rfl, hb⟩
    replace X := X.to hb
    clear hb
    have hr := X.r1
    rw [ha]
    go_wp2
    go_ret2
    exact ⟨rfl, X.1⟩
  rw [ifV_yes ha, ifV_yes ha]
  obtain ⟨k1, k2, k3, k4⟩ := (vF_iff.1 ha).1
  have hn : vF (negF a) = true := by rw [vF_neg]; exact ha
  have C := fun w => floor_any (negF a) w
  simp only [ifV_yes hn] at C
  have b := fl_spec hn
  obtain ⟨_, _, b1, b2⟩ := b
  have E : Hid (ceF a = -flF (negF a)) := hide rfl
  have C := hide C
  generalize flF (negF a) = f at *
  go_enter Tryd.func23, Tryd.ntmps23
  go_wp2_with fail
  refine (rvalid_any a _).mono ?_
  rintro e w1 ⟨rfl, hb⟩
  replace X := X.to hb
  clear hb
  have hr := X.r1
  rw [ha]
  go_wp2_with fail
  refine (C.out _).mono ?_
  rintro e w1 ⟨rfl, hb⟩
  replace X := X.to hb
  clear hb
  go_wp2
  go_ret2
  exact ⟨by rw [E.out]; rfl, X.1⟩
def cmpV (a b : Fr) (x y : Int) : Int := if vF a = true ∧ vF b = true then x else y
set_option maxRecDepth 100000 in
set_option maxHeartbeats 1000000 in
theorem cmp_any (a b : Fr) (w : World) : Calls Tryd.prog 21 #[a.val, b.val] w (RetIE (cmpV a b (cmpF a b) 0) (cmpV a b 0 1) w) := by
  have X := ((Own.start w).alloc #[.int .i64 a.num, .int .i64 a.den] 24).alloc #[.int .i64 b.num, .int .i64 b.den] 24
  simp only [World.size_alloc] at X
  rcases Bool.eq_false_or_eq_true (vF a) with ha | ha
  rotate_left
  · rw [show cmpV a b (cmpF a b) 0 = 0 by simp [cmpV, ha], show cmpV a b 0 1 = 1 by simp [cmpV, ha]]
    go_enter Tryd.func21, Tryd.ntmps21
    go_wp2_with fail
    refine (rvalid_any a _).mono ?_
    rintro e w1 ⟨rfl, hb⟩
    replace X := X.to hb
    clear hb
    have hr := X.r2
    rw [ha]
    go_wp2
    go_ret2
    exact ⟨rfl, X.1⟩
  rcases Bool.eq_false_or_eq_true (vF b) with hb' | hb'
  rotate_left
  · rw [show cmpV a b (cmpF a b) 0 = 0 by simp [cmpV, hb'], show cmpV a b 0 1 = 1 by simp [cmpV, hb']]
    go_enter Tryd.func21, Tryd.ntmps21
    go_wp2_with fail
    refine (rvalid_any a _).mono ?_
    rintro e w1 ⟨rfl, hb⟩
    replace X := X.to hb
    clear hb
    have hr := X.r2
    rw [ha]
    go_wp2_with fail
    refine (rvalid_any b _).mono ?_
    rintro e w1 ⟨rfl, hb⟩
    replace X := X.to hb
    clear hb hr
    have hr := X.r2
    rw [hb']
    go_wp2
    go_ret2
    exact ⟨rfl, X.1⟩
  rw [show cmpV a b (cmpF a b) 0 = cmpF a b by simp [cmpV, ha, hb'], show cmpV a b 0 1 = 0 by simp [cmpV, ha, hb']]
  obtain ⟨_, ⟨n3, n4⟩, ⟨n5, n6⟩, _, _⟩ := fr_prod ha hb'
  have T : (decide (cmpD a b < 0) = true ∧ cmpF a b = -1) ∨ (decide (cmpD a b < 0) = false ∧ decide (0 < cmpD a b) = true ∧ cmpF a b = 1) ∨ (decide (cmpD a b < 0) = false ∧ decide (0 < cmpD a b) = false ∧ cmpF a b = 0) := by
    unfold cmpF
    by_cases h : cmpD a b < 0
    · exact .inl ⟨decide_eq_true h, if_pos h⟩
    · by_cases h' : 0 < cmpD a b
      · exact .inr (.inl ⟨decide_eq_false h, decide_eq_true h', by rw [if_neg h, if_pos h']⟩)
      · exact .inr (.inr ⟨decide_eq_false h, decide_eq_false h', by rw [if_neg h, if_neg h']⟩)
  have e2 := w64 (z := a.num * b.den) (by omega) (by omega)
  have e3 := w64 (z := b.num * a.den) (by omega) (by omega)
  have e7 := w64 (z := a.num * b.den - b.num * a.den) (by omega) (by omega)
  rw [IntWalk.i64_left] at e2 e3 e7
  change RowKit.wrap64 (a.num * b.den - b.num * a.den) = cmpD a b at e7
  have d1 : -9223372036854775808 ≤ cmpD a b ∧ cmpD a b ≤ 9223372036854775807 := by unfold cmpD; omega
  have e8 : a.num * b.den - b.num * a.den = cmpD a b := rfl
  obtain ⟨d1, d2⟩ := d1
  clear e2 e3 e7
  generalize cmpD a b = D at *
  generalize hp : a.num * b.den = p at *
  generalize hq : b.num * a.den = q at *
  rcases T with ⟨c1, c2⟩ | ⟨c1, c3, c2⟩ | ⟨c1, c3, c2⟩
  all_goals
    rw [c2]
    clear c2
    go_enter Tryd.func21, Tryd.ntmps21
    go_wp2_with fail
    refine (rvalid_any a _).mono ?_
    rintro e w1 ⟨rfl, hb⟩
    replace X := X.to hb
    clear hb
    have hr := X.r2
    rw [ha]
    go_wp2_with fail
    refine (rvalid_any b _).mono ?_
    rintro e w1 ⟨rfl, hb⟩
    replace X := X.to hb
    clear hb hr
    have hr := X.r2
    rw [hb']
    go_wp2
    go_ret2
    exact ⟨rfl, X.1⟩
end Go.Proofs.YtbmckddjdkjplaaDoor
