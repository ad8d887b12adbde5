/- The program's Mul, Div, Times: what each returns; nothing that was there is turned. -/
import Derived.Test.YtgflgnbbkhikcaaDoorSpScaled
namespace Go.Proofs.YtgflgnbbkhikcaaDoor
open Go.RowKit

theorem ok_one {n m : Int} (h1 : -72057594037927936 ≤ n) (h2 : n ≤ 72057594037927936) (h3 : -72057594037927936 ≤ m) (h4 : m ≤ 72057594037927936) : (Tr.mk n m 1).Ok := ⟨by simp, .inr rfl, by simp; omega, by simp; omega, by simp; omega, by simp; omega, by simp, by simp⟩
theorem ok_div {n m : Int} (h1 : -72057594037927936 ≤ n) (h2 : n ≤ 72057594037927936) (h3 : -72057594037927936 ≤ m) (h4 : m ≤ 72057594037927936) (h : m ≠ 0) : (Tr.mk n 1 m).Ok := ⟨by simpa using h, .inl (by simp; omega), by simp; omega, by simp; omega, by simp, by simp, by simp; omega, by simp; omega⟩

def divF (a b : Sp) : Int := if b.lo ≤ 0 ∧ 0 ≤ b.hi then 16 else s4E ⟨a.lo, 1, b.lo⟩ ⟨a.lo, 1, b.hi⟩ ⟨a.hi, 1, b.lo⟩ ⟨a.hi, 1, b.hi⟩
def divV (a b : Sp) : Sp := if b.lo ≤ 0 ∧ 0 ≤ b.hi then Sp.zero else s4S ⟨a.lo, 1, b.lo⟩ ⟨a.lo, 1, b.hi⟩ ⟨a.hi, 1, b.lo⟩ ⟨a.hi, 1, b.hi⟩
theorem div_zero {a b : Sp} (h : b.lo ≤ 0 ∧ 0 ≤ b.hi) : divF a b = 16 ∧ divV a b = Sp.zero := by simp only [divF, divV, if_pos h]; exact ⟨trivial, trivial⟩
theorem div_some {a b : Sp} (h : ¬ (b.lo ≤ 0 ∧ 0 ≤ b.hi)) : divF a b = s4E ⟨a.lo, 1, b.lo⟩ ⟨a.lo, 1, b.hi⟩ ⟨a.hi, 1, b.lo⟩ ⟨a.hi, 1, b.hi⟩ ∧ divV a b = s4S ⟨a.lo, 1, b.lo⟩ ⟨a.lo, 1, b.hi⟩ ⟨a.hi, 1, b.lo⟩ ⟨a.hi, 1, b.hi⟩ := by simp only [divF, divV, if_neg h]; exact ⟨trivial, trivial⟩
def timE (a : Sp) (m d : Int) : Int := if vB a = true then (if d = 0 then 16 else s4E ⟨a.lo, m, d⟩ ⟨a.lo, m, d⟩ ⟨a.hi, m, d⟩ ⟨a.hi, m, d⟩) else 1
def timS (a : Sp) (m d : Int) : Sp := if vB a = true then (if d = 0 then Sp.zero else s4S ⟨a.lo, m, d⟩ ⟨a.lo, m, d⟩ ⟨a.hi, m, d⟩ ⟨a.hi, m, d⟩) else Sp.zero
theorem tim_no {a : Sp} {m d : Int} (h : vB a = false) : timE a m d = 1 ∧ timS a m d = Sp.zero := by simp [timE, timS, h]
theorem tim_zero {a : Sp} {m d : Int} (h : vB a = true) (h' : d = 0) : timE a m d = 16 ∧ timS a m d = Sp.zero := by simp [timE, timS, h, h']
theorem tim_yes {a : Sp} {m d : Int} (h : vB a = true) (h' : d ≠ 0) : timE a m d = s4E ⟨a.lo, m, d⟩ ⟨a.lo, m, d⟩ ⟨a.hi, m, d⟩ ⟨a.hi, m, d⟩ ∧ timS a m d = s4S ⟨a.lo, m, d⟩ ⟨a.lo, m, d⟩ ⟨a.hi, m, d⟩ ⟨a.hi, m, d⟩ := by simp [timE, timS, h, h']

set_option maxHeartbeats 1000000 in
theorem mul_any (a b : Sp) (w : World) : Calls Tryd.prog 12 #[a.val, b.val] w (RetSE (op2S a b (s4S ⟨a.lo, b.lo, 1⟩ ⟨a.lo, b.hi, 1⟩ ⟨a.hi, b.lo, 1⟩ ⟨a.hi, b.hi, 1⟩)) (op2E a b (s4E ⟨a.lo, b.lo, 1⟩ ⟨a.lo, b.hi, 1⟩ ⟨a.hi, b.lo, 1⟩ ⟨a.hi, b.hi, 1⟩)) w) := by
  have X := (((Own.start w).alloc #[.int .i64 a.lo, .int .i64 a.hi] 23).alloc #[.int .i64 b.lo, .int .i64 b.hi] 23).alloc #[.int .i64 0, .int .i64 0] 23
  simp only [World.size_alloc] at X
  rcases Bool.eq_false_or_eq_true (vB a) with ha | ha
  rotate_left
  · have H := hide (op2_no1 (b := b) ha (s4E ⟨a.lo, b.lo, 1⟩ ⟨a.lo, b.hi, 1⟩ ⟨a.hi, b.lo, 1⟩ ⟨a.hi, b.hi, 1⟩) (s4S ⟨a.lo, b.lo, 1⟩ ⟨a.lo, b.hi, 1⟩ ⟨a.hi, b.lo, 1⟩ ⟨a.hi, b.hi, 1⟩))
    go_enter Tryd.func12, Tryd.ntmps12
    go_wp2_with fail
    refine (valid_any a _).mono ?_
    rintro e w1 ⟨rfl, hb⟩
    replace X := X.to hb
    clear hb
    have hr := X.r3
    rw [ha]
    go_wp2
    exact bodyPost_ret (v := .tuple #[Sp.zero.val, .int .i64 1]) (by simp [results, Tryd.results12, hr, Sp.zero, go_sem]) rfl (RetSE.mk (by have HX := X.1; have hz := HX.size; go_grown) H.out.2 H.out.1)
  rcases Bool.eq_false_or_eq_true (vB b) with hb' | hb'
  rotate_left
  · have H := hide (op2_no2 (a := a) hb' (s4E ⟨a.lo, b.lo, 1⟩ ⟨a.lo, b.hi, 1⟩ ⟨a.hi, b.lo, 1⟩ ⟨a.hi, b.hi, 1⟩) (s4S ⟨a.lo, b.lo, 1⟩ ⟨a.lo, b.hi, 1⟩ ⟨a.hi, b.lo, 1⟩ ⟨a.hi, b.hi, 1⟩))
    go_enter Tryd.func12, Tryd.ntmps12
    go_wp2_with fail
    refine (valid_any a _).mono ?_
    rintro e w1 ⟨rfl, hb⟩
    replace X := X.to hb
    clear hb
    have hr := X.r3
    rw [ha]
    go_wp2_with fail
    refine (valid_any b _).mono ?_
    rintro e w1 ⟨rfl, hb⟩
    replace X := X.to hb
    clear hb hr
    have hr := X.r3
    rw [hb']
    go_wp2
    exact bodyPost_ret (v := .tuple #[Sp.zero.val, .int .i64 1]) (by simp [results, Tryd.results12, hr, Sp.zero, go_sem]) rfl (RetSE.mk (by have HX := X.1; have hz := HX.size; go_grown) H.out.2 H.out.1)
  obtain ⟨h1, h2, h3⟩ := vB_iff.1 ha
  obtain ⟨k1, k2, k3⟩ := vB_iff.1 hb'
  have H := hide (op2_yes ha hb' (s4E ⟨a.lo, b.lo, 1⟩ ⟨a.lo, b.hi, 1⟩ ⟨a.hi, b.lo, 1⟩ ⟨a.hi, b.hi, 1⟩) (s4S ⟨a.lo, b.lo, 1⟩ ⟨a.lo, b.hi, 1⟩ ⟨a.hi, b.lo, 1⟩ ⟨a.hi, b.hi, 1⟩))
  go_enter Tryd.func12, Tryd.ntmps12
  go_wp2_with fail
  refine (valid_any a _).mono ?_
  rintro e w1 ⟨rfl, hb⟩
  replace X := X.to hb
  clear hb
  have hr := X.r3
  rw [ha]
  go_wp2_with fail
  refine (valid_any b _).mono ?_
  rintro e w1 ⟨rfl, hb⟩
  replace X := X.to hb
  clear hb hr
  have hr := X.r3
  rw [hb']
  clear ha hb'
  have K0 := hide (ok_one (n := a.lo) (m := b.lo) (by omega) (by omega) (by omega) (by omega))
  have K1 := hide (ok_one (n := a.lo) (m := b.hi) (by omega) (by omega) (by omega) (by omega))
  have K2 := hide (ok_one (n := a.hi) (m := b.lo) (by omega) (by omega) (by omega) (by omega))
  have K3 := hide (ok_one (n := a.hi) (m := b.hi) (by omega) (by omega) (by omega) (by omega))
  go_wp2_with fail
  refine (scaled_any ⟨a.lo, b.lo, 1⟩ ⟨a.lo, b.hi, 1⟩ ⟨a.hi, b.lo, 1⟩ ⟨a.hi, b.hi, 1⟩ _ K0.out K1.out K2.out K3.out).mono ?_
  rintro e w1 ⟨rfl, hb⟩
  replace X := X.to hb
  clear hb hr
  have hr := X.r3
  go_wp2
  exact bodyPost_ret (v := .tuple #[(s4S ⟨a.lo, b.lo, 1⟩ ⟨a.lo, b.hi, 1⟩ ⟨a.hi, b.lo, 1⟩ ⟨a.hi, b.hi, 1⟩).val, .int .i64 (s4E ⟨a.lo, b.lo, 1⟩ ⟨a.lo, b.hi, 1⟩ ⟨a.hi, b.lo, 1⟩ ⟨a.hi, b.hi, 1⟩)]) (by simp [results, Tryd.results12, hr, go_sem]) rfl (RetSE.mk (by have HX := X.1; have hz := HX.size; go_grown) H.out.2 H.out.1)

set_option maxHeartbeats 1000000 in
theorem div_any (a b : Sp) (w : World) : Calls Tryd.prog 17 #[a.val, b.val] w (RetSE (op2S a b (divV a b)) (op2E a b (divF a b)) w) := by
  have X := (((Own.start w).alloc #[.int .i64 a.lo, .int .i64 a.hi] 23).alloc #[.int .i64 b.lo, .int .i64 b.hi] 23).alloc #[.int .i64 0, .int .i64 0] 23
  simp only [World.size_alloc] at X
  rcases Bool.eq_false_or_eq_true (vB a) with ha | ha
  rotate_left
  · have H := hide (op2_no1 (b := b) ha (divF a b) (divV a b))
    go_enter Tryd.func17, Tryd.ntmps17
    go_wp2_with fail
    refine (valid_any a _).mono ?_
    rintro e w1 ⟨rfl, hb⟩
    replace X := X.to hb
    clear hb
    have hr := X.r3
    rw [ha]
    go_wp2
    exact bodyPost_ret (v := .tuple #[Sp.zero.val, .int .i64 1]) (by simp [results, Tryd.results17, hr, Sp.zero, go_sem]) rfl (RetSE.mk (by have HX := X.1; have hz := HX.size; go_grown) H.out.2 H.out.1)
  rcases Bool.eq_false_or_eq_true (vB b) with hb' | hb'
  rotate_left
  · have H := hide (op2_no2 (a := a) hb' (divF a b) (divV a b))
    go_enter Tryd.func17, Tryd.ntmps17
    go_wp2_with fail
    refine (valid_any a _).mono ?_
    rintro e w1 ⟨rfl, hb⟩
    replace X := X.to hb
    clear hb
    have hr := X.r3
    rw [ha]
    go_wp2_with fail
    refine (valid_any b _).mono ?_
    rintro e w1 ⟨rfl, hb⟩
    replace X := X.to hb
    clear hb hr
    have hr := X.r3
    rw [hb']
    go_wp2
    exact bodyPost_ret (v := .tuple #[Sp.zero.val, .int .i64 1]) (by simp [results, Tryd.results17, hr, Sp.zero, go_sem]) rfl (RetSE.mk (by have HX := X.1; have hz := HX.size; go_grown) H.out.2 H.out.1)
  obtain ⟨h1, h2, h3⟩ := vB_iff.1 ha
  obtain ⟨k1, k2, k3⟩ := vB_iff.1 hb'
  have H := hide (op2_yes ha hb' (divF a b) (divV a b))
  go_enter Tryd.func17, Tryd.ntmps17
  go_wp2_with fail
  refine (valid_any a _).mono ?_
  rintro e w1 ⟨rfl, hb⟩
  replace X := X.to hb
  clear hb
  have hr := X.r3
  rw [ha]
  go_wp2_with fail
  refine (valid_any b _).mono ?_
  rintro e w1 ⟨rfl, hb⟩
  replace X := X.to hb
  clear hb hr
  have hr := X.r3
  rw [hb']
  clear ha hb'
  by_cases hz0 : b.lo ≤ 0 ∧ 0 ≤ b.hi
  · have D := hide (div_zero (a := a) hz0)
    obtain ⟨z1, z2⟩ := hz0
    go_wp2
    exact bodyPost_ret (v := .tuple #[Sp.zero.val, .int .i64 16]) (by simp [results, Tryd.results17, hr, Sp.zero, go_sem]) rfl (RetSE.mk (by have HX := X.1; have hz := HX.size; go_grown) (by rw [H.out.2, D.out.2]) (by rw [H.out.1, D.out.1]))
  have D := hide (div_some (a := a) hz0)
  have z3 : 0 < b.lo ∨ (b.lo ≤ 0 ∧ b.hi < 0) := by omega
  have n1 : b.lo ≠ 0 := by omega
  have n2 : b.hi ≠ 0 := by omega
  have N1 := hide n1
  have N2 := hide n2
  clear n1 n2 hz0
  replace H : Hid (op2E a b (divF a b) = s4E ⟨a.lo, 1, b.lo⟩ ⟨a.lo, 1, b.hi⟩ ⟨a.hi, 1, b.lo⟩ ⟨a.hi, 1, b.hi⟩ ∧ op2S a b (divV a b) = s4S ⟨a.lo, 1, b.lo⟩ ⟨a.lo, 1, b.hi⟩ ⟨a.hi, 1, b.lo⟩ ⟨a.hi, 1, b.hi⟩) := ⟨by rw [H.out.1, D.out.1], by rw [H.out.2, D.out.2]⟩
  rcases z3 with z1 | ⟨z1, z2⟩
  all_goals
    have K0 := hide (ok_div (n := a.lo) (m := b.lo) (by omega) (by omega) (by omega) (by omega) N1.out)
    have K1 := hide (ok_div (n := a.lo) (m := b.hi) (by omega) (by omega) (by omega) (by omega) N2.out)
    have K2 := hide (ok_div (n := a.hi) (m := b.lo) (by omega) (by omega) (by omega) (by omega) N1.out)
    have K3 := hide (ok_div (n := a.hi) (m := b.hi) (by omega) (by omega) (by omega) (by omega) N2.out)
    go_wp2_with fail
    refine (scaled_any ⟨a.lo, 1, b.lo⟩ ⟨a.lo, 1, b.hi⟩ ⟨a.hi, 1, b.lo⟩ ⟨a.hi, 1, b.hi⟩ _ K0.out K1.out K2.out K3.out).mono ?_
    rintro e w1 ⟨rfl, hb⟩
    replace X := X.to hb
    clear hb hr
    have hr := X.r3
    go_wp2
    exact bodyPost_ret (v := .tuple #[(s4S ⟨a.lo, 1, b.lo⟩ ⟨a.lo, 1, b.hi⟩ ⟨a.hi, 1, b.lo⟩ ⟨a.hi, 1, b.hi⟩).val, .int .i64 (s4E ⟨a.lo, 1, b.lo⟩ ⟨a.lo, 1, b.hi⟩ ⟨a.hi, 1, b.lo⟩ ⟨a.hi, 1, b.hi⟩)]) (by simp [results, Tryd.results17, hr, go_sem]) rfl (RetSE.mk (by have HX := X.1; have hz := HX.size; go_grown) H.out.2 H.out.1)
  
set_option maxHeartbeats 1000000 in
theorem tim_any (a : Sp) (m d : Int) (w : World)
    (hp : vB a = true → d ≠ 0 → (Tr.mk a.lo m d).Ok ∧ (Tr.mk a.hi m d).Ok) : Calls Tryd.prog 13 #[a.val, .int .i64 m, .int .i64 d] w (RetSE (timS a m d) (timE a m d) w) := by
  have X := ((Own.start w).alloc #[.int .i64 a.lo, .int .i64 a.hi] 23).alloc #[.int .i64 0, .int .i64 0] 23
  simp only [World.size_alloc] at X
  have HP := hide hp
  clear hp
  rcases Bool.eq_false_or_eq_true (vB a) with ha | ha
  rotate_left
  · have H := hide (tim_no (m := m) (d := d) ha)
    go_enter Tryd.func13, Tryd.ntmps13
    go_wp2_with fail
    refine (valid_any a _).mono ?_
    rintro e w1 ⟨rfl, hb⟩
    replace X := X.to hb
    clear hb
    have hr := X.r2
    rw [ha]
    go_wp2
    exact bodyPost_ret (v := .tuple #[Sp.zero.val, .int .i64 1]) (by simp [results, Tryd.results13, hr, Sp.zero, go_sem]) rfl (RetSE.mk (by have HX := X.1; have hz := HX.size; go_grown) H.out.2 H.out.1)
  rcases Bool.eq_false_or_eq_true (d == 0) with h0 | h0
  · have H := hide (tim_zero (m := m) ha (d := d) (by simpa using h0))
    go_enter Tryd.func13, Tryd.ntmps13
    go_wp2_with fail
    refine (valid_any a _).mono ?_
    rintro e w1 ⟨rfl, hb⟩
    replace X := X.to hb
    clear hb
    have hr := X.r2
    rw [ha]
    go_wp2
    exact bodyPost_ret (v := .tuple #[Sp.zero.val, .int .i64 16]) (by simp [results, Tryd.results13, hr, Sp.zero, go_sem]) rfl (RetSE.mk (by have HX := X.1; have hz := HX.size; go_grown) H.out.2 H.out.1)
  have hz0 : d ≠ 0 := by simpa using h0
  have H := hide (tim_yes (m := m) ha (d := d) hz0)
  have K := hide (HP.out ha hz0)
  clear hz0
  go_enter Tryd.func13, Tryd.ntmps13
  go_wp2_with fail
  refine (valid_any a _).mono ?_
  rintro e w1 ⟨rfl, hb⟩
  replace X := X.to hb
  clear hb
  have hr := X.r2
  rw [ha]
  go_wp2_with fail
  go_region
  all_goals
    go_wp2_with fail
    refine (scaled_any ⟨a.lo, m, d⟩ ⟨a.lo, m, d⟩ ⟨a.hi, m, d⟩ ⟨a.hi, m, d⟩ _ K.out.1 K.out.1 K.out.2 K.out.2).mono ?_
    rintro e w2 ⟨rfl, hb⟩
    have Y := X.to (below_via (by go_grown) (by go_size) hb)
    clear hb hr
    have hr := Y.r2
    go_wp2
    exact bodyPost_ret (v := .tuple #[(s4S ⟨a.lo, m, d⟩ ⟨a.lo, m, d⟩ ⟨a.hi, m, d⟩ ⟨a.hi, m, d⟩).val, .int .i64 (s4E ⟨a.lo, m, d⟩ ⟨a.lo, m, d⟩ ⟨a.hi, m, d⟩ ⟨a.hi, m, d⟩)]) (by simp [results, Tryd.results13, hr, go_sem]) rfl (RetSE.mk (by have HX := Y.1; have hz := HX.size; go_grown) H.out.2 H.out.1)


end Go.Proofs.YtgflgnbbkhikcaaDoor
