/- The reference's spans: Valid, Has, Inside, fits, Add, Sub, Neg, Hull, Meet: what each returns; nothing that was there is turned. -/
import Derived.Test.YtgflgnbbkhikcaaDoorSpOps
import Derived.Test.YtgflgnbbkhikcaaDoorOwn3
namespace Go.Proofs.YtgflgnbbkhikcaaDoor
open Go.RowKit

theorem calls_se {f : Nat} {args : Array Value} {w : World} {s t : Sp} {er er' : Int} (h : Calls Tryd.prog f args w (RetSE s er w)) (h1 : s = t) (h2 : er = er') : Calls Tryd.prog f args w (RetSE t er' w) := by subst h1 h2; exact h
set_option maxHeartbeats 400000 in
theorem rvalid_any (a : Sp) (w : World) : Calls Tryd.prog 14 #[a.val] w fun e w' => e = .returned (.bool (vB a)) ∧ Below w.heap.size w w' := by
  rcases Int.lt_or_le a.hi a.lo with h1 | h1
  · have V : Hid (vB a = false) := hide (by have : ¬ a.lo ≤ a.hi := by omega
                                            simp [vB, this])
    go_enter Tryd.func14, Tryd.ntmps14
    go_wp2
    go_ret
    exact ⟨ret_bool (by first | exact V.out.symm | (rw [V.out]; simp; omega)), by go_grown⟩
  rcases Int.lt_or_le a.lo (-72057594037927936) with h2 | h2
  · have V : Hid (vB a = false) := hide (by have : fitB a.lo = false := fitB_not.2 (.inl h2)
                                            simp [vB, this])
    go_enter Tryd.func14, Tryd.ntmps14
    go_wp2
    go_ret
    exact ⟨ret_bool (by first | exact V.out.symm | (rw [V.out]; simp; omega)), by go_grown⟩
  rcases Int.lt_or_le 72057594037927936 a.hi with h3 | h3
  · have V : Hid (vB a = false) := hide (by have : fitB a.hi = false := fitB_not.2 (.inr h3)
                                            simp [vB, this])
    go_enter Tryd.func14, Tryd.ntmps14
    go_wp2
    go_ret
    exact ⟨ret_bool (by first | exact V.out.symm | (rw [V.out]; simp; omega)), by go_grown⟩
  · have V : Hid (vB a = true) := hide (vB_iff.2 ⟨h1, h2, h3⟩)
    go_enter Tryd.func14, Tryd.ntmps14
    go_wp2
    go_ret
    exact ⟨ret_bool (by first | exact V.out.symm | (rw [V.out]; simp; omega)), by go_grown⟩
def hasB (a : Sp) (n : Int) : Bool := decide (a.lo ≤ n) && decide (n ≤ a.hi)
set_option maxHeartbeats 400000 in
theorem has_any (a : Sp) (n : Int) (w : World) : Calls Tryd.prog 24 #[a.val, .int .i64 n] w fun e w' => e = .returned (.bool (hasB a n)) ∧ Below w.heap.size w w' := by
  by_cases h1 : a.lo ≤ n <;> by_cases h2 : n ≤ a.hi
  all_goals
    have V : Hid (hasB a n = (decide (a.lo ≤ n) && decide (n ≤ a.hi))) := hide rfl
    go_enter Tryd.func24, Tryd.ntmps24
    go_wp2
    go_ret
    refine ⟨ret_bool ?_, by go_grown⟩
    rw [V.out]
    simp <;> omega
def insB (a b : Sp) : Bool := decide (b.lo ≤ a.lo) && decide (a.hi ≤ b.hi)
set_option maxHeartbeats 400000 in
theorem inside_any (a b : Sp) (w : World) : Calls Tryd.prog 25 #[a.val, b.val] w fun e w' => e = .returned (.bool (insB a b)) ∧ Below w.heap.size w w' := by
  by_cases h1 : b.lo ≤ a.lo <;> by_cases h2 : a.hi ≤ b.hi
  all_goals
    have V : Hid (insB a b = (decide (b.lo ≤ a.lo) && decide (a.hi ≤ b.hi))) := hide rfl
    go_enter Tryd.func25, Tryd.ntmps25
    go_wp2
    go_ret
    refine ⟨ret_bool ?_, by go_grown⟩
    rw [V.out]
    simp <;> omega
theorem res_vB {x y : Int} (h : x ≤ y) : (vB ⟨x, y⟩ = true ∧ resE x y = 0 ∧ resS x y = ⟨x, y⟩) ∨ (vB ⟨x, y⟩ = false ∧ resE x y = 5 ∧ resS x y = ⟨0, 0⟩) := by
  simp only [vB, resE, resS, Sp.zero]
  cases fitB x <;> cases fitB y <;> simp [h]
set_option maxHeartbeats 1000000 in
theorem rfits_any (x y : Int) (w : World) (h : x ≤ y) : Calls Tryd.prog 52 #[.int .i64 x, .int .i64 y] w (RetSE (resS x y) (resE x y) w) := by
  have X := ((Own.start w).alloc #[.int .i64 0, .int .i64 0] 23).alloc #[.int .i64 x, .int .i64 y] 23
  simp only [World.size_alloc] at X
  rcases res_vB h with ⟨t1, t2, t3⟩ | ⟨t1, t2, t3⟩
  all_goals
    have HV := rvalid_any ⟨x, y⟩
    rw [t1] at HV
    rw [t2, t3]
    clear t1 t2 t3 h
    go_enter Tryd.func52, Tryd.ntmps52
    go_wp2_with fail
    refine (HV _).mono ?_
    rintro e w1 ⟨rfl, hb⟩
    replace X := X.to hb
    clear hb
    have hr := X.r2
    go_wp2
  · exact bodyPost_ret (v := .tuple #[.agg #[.int .i64 x, .int .i64 y], .int .i64 0]) (by simp [results, Tryd.results52, hr, go_sem]) rfl ⟨rfl, by have HX := X.1; have hz := HX.size; go_grown⟩
  · exact bodyPost_ret (v := .tuple #[.agg #[.int .i64 0, .int .i64 0], .int .i64 5]) (by simp [results, Tryd.results52, hr, go_sem]) rfl ⟨rfl, by have HX := X.1; have hz := HX.size; go_grown⟩
set_option maxHeartbeats 1000000 in
theorem radd_any (a b : Sp) (w : World) (ha : vB a = true) (hb : vB b = true) : Calls Tryd.prog 32 #[a.val, b.val] w (RetSE (resS (a.lo + b.lo) (a.hi + b.hi)) (resE (a.lo + b.lo) (a.hi + b.hi)) w) := by
  have X := (((Own.start w).alloc #[.int .i64 a.lo, .int .i64 a.hi] 23).alloc #[.int .i64 b.lo, .int .i64 b.hi] 23).alloc #[.int .i64 0, .int .i64 0] 23
  simp only [World.size_alloc] at X
  obtain ⟨h1, h2, h3⟩ := vB_iff.1 ha
  obtain ⟨k1, k2, k3⟩ := vB_iff.1 hb
  clear ha hb
  go_enter Tryd.func32, Tryd.ntmps32
  have hr := X.r3
  go_wp2_with fail
  refine (rfits_any _ _ _ (by omega)).mono ?_
  rintro e w1 ⟨rfl, hb⟩
  replace X := X.to hb
  clear hb hr
  have hr := X.r3
  go_wp2
  exact bodyPost_ret (v := .tuple #[(resS (a.lo + b.lo) (a.hi + b.hi)).val, .int .i64 (resE (a.lo + b.lo) (a.hi + b.hi))]) (by simp [results, Tryd.results32, hr, go_sem]) rfl ⟨rfl, by have HX := X.1; have hz := HX.size; go_grown⟩
set_option maxHeartbeats 1000000 in
theorem rsub_any (a b : Sp) (w : World) (ha : vB a = true) (hb : vB b = true) : Calls Tryd.prog 33 #[a.val, b.val] w (RetSE (resS (a.lo - b.hi) (a.hi - b.lo)) (resE (a.lo - b.hi) (a.hi - b.lo)) w) := by
  have X := (((Own.start w).alloc #[.int .i64 a.lo, .int .i64 a.hi] 23).alloc #[.int .i64 b.lo, .int .i64 b.hi] 23).alloc #[.int .i64 0, .int .i64 0] 23
  simp only [World.size_alloc] at X
  obtain ⟨h1, h2, h3⟩ := vB_iff.1 ha
  obtain ⟨k1, k2, k3⟩ := vB_iff.1 hb
  clear ha hb
  go_enter Tryd.func33, Tryd.ntmps33
  have hr := X.r3
  go_wp2_with fail
  refine (rfits_any _ _ _ (by omega)).mono ?_
  rintro e w1 ⟨rfl, hb⟩
  replace X := X.to hb
  clear hb hr
  have hr := X.r3
  go_wp2
  exact bodyPost_ret (v := .tuple #[(resS (a.lo - b.hi) (a.hi - b.lo)).val, .int .i64 (resE (a.lo - b.hi) (a.hi - b.lo))]) (by simp [results, Tryd.results33, hr, go_sem]) rfl ⟨rfl, by have HX := X.1; have hz := HX.size; go_grown⟩
set_option maxHeartbeats 1000000 in
theorem rneg_any (a : Sp) (w : World) (ha : vB a = true) : Calls Tryd.prog 31 #[a.val] w (RetSE (resS (-a.hi) (-a.lo)) (resE (-a.hi) (-a.lo)) w) := by
  have X := ((Own.start w).alloc #[.int .i64 a.lo, .int .i64 a.hi] 23).alloc #[.int .i64 0, .int .i64 0] 23
  simp only [World.size_alloc] at X
  obtain ⟨h1, h2, h3⟩ := vB_iff.1 ha
  clear ha
  go_enter Tryd.func31, Tryd.ntmps31
  have hr := X.r2
  go_wp2_with fail
  refine (rfits_any _ _ _ (by omega)).mono ?_
  rintro e w1 ⟨rfl, hb⟩
  replace X := X.to hb
  clear hb hr
  have hr := X.r2
  go_wp2
  exact bodyPost_ret (v := .tuple #[(resS (-a.hi) (-a.lo)).val, .int .i64 (resE (-a.hi) (-a.lo))]) (by simp [results, Tryd.results31, hr, go_sem]) rfl ⟨rfl, by have HX := X.1; have hz := HX.size; go_grown⟩
end Go.Proofs.YtgflgnbbkhikcaaDoor
