/- The examples of the chapter: awake returns true; nothing that was there is turned. -/
import Derived.Test.YtgflgnbbkhikcaaDoorSpMul
import Derived.Test.YtgflgnbbkhikcaaDoorSpRoot
namespace Go.Proofs.YtgflgnbbkhikcaaDoor
open Go.RowKit

theorem sp_eq {s t : Sp} (h1 : s.lo = t.lo) (h2 : s.hi = t.hi) : s = t := by cases s; cases t; simp only at h1 h2; rw [h1, h2]
theorem ex_mul (w : World) : Calls Tryd.prog 12 #[.agg #[.int .i64 (-2), .int .i64 3], .agg #[.int .i64 (-5), .int .i64 4]] w (RetSE ⟨-15, 12⟩ 0 w) := by
  have h := mul_any ⟨-2, 3⟩ ⟨-5, 4⟩ w
  rw [show op2E ⟨-2, 3⟩ ⟨-5, 4⟩ (s4E ⟨-2, -5, 1⟩ ⟨-2, 4, 1⟩ ⟨3, -5, 1⟩ ⟨3, 4, 1⟩) = 0 by decide +kernel, show op2S ⟨-2, 3⟩ ⟨-5, 4⟩ (s4S ⟨-2, -5, 1⟩ ⟨-2, 4, 1⟩ ⟨3, -5, 1⟩ ⟨3, 4, 1⟩) = ⟨-15, 12⟩ from sp_eq (by decide +kernel) (by decide +kernel)] at h
  exact h
theorem ex_div (w : World) : Calls Tryd.prog 17 #[.agg #[.int .i64 7, .int .i64 8], .agg #[.int .i64 2, .int .i64 3]] w (RetSE ⟨2, 4⟩ 0 w) := by
  have h := div_any ⟨7, 8⟩ ⟨2, 3⟩ w
  rw [show op2E ⟨7, 8⟩ ⟨2, 3⟩ (divF ⟨7, 8⟩ ⟨2, 3⟩) = 0 by decide +kernel, show op2S ⟨7, 8⟩ ⟨2, 3⟩ (divV ⟨7, 8⟩ ⟨2, 3⟩) = ⟨2, 4⟩ from sp_eq (by decide +kernel) (by decide +kernel)] at h
  exact h
theorem ex_tim (w : World) : Calls Tryd.prog 13 #[.agg #[.int .i64 10, .int .i64 20], .int .i64 1, .int .i64 3] w (RetSE ⟨3, 7⟩ 0 w) := by
  have h := tim_any ⟨10, 20⟩ 1 3 w (fun _ _ => by unfold Tr.Ok; decide)
  rw [show timE ⟨10, 20⟩ 1 3 = 0 by decide +kernel, show timS ⟨10, 20⟩ 1 3 = ⟨3, 7⟩ from sp_eq (by decide +kernel) (by decide +kernel)] at h
  exact h
theorem ex_roo (w : World) : Calls Tryd.prog 18 #[.agg #[.int .i64 2, .int .i64 9]] w (RetSE ⟨1, 3⟩ 0 w) := by
  have h := Root_any ⟨2, 9⟩ w
  rw [show rooE ⟨2, 9⟩ = 0 by decide +kernel, show rooS ⟨2, 9⟩ = ⟨1, 3⟩ from sp_eq (by decide +kernel) (by decide +kernel)] at h
  exact h
set_option maxHeartbeats 400000 in
theorem of_any (n : Int) (w : World) : Calls Tryd.prog 38 #[.int .i64 n] w fun e w' => e = .returned (.agg #[.int .i64 n, .int .i64 n]) ∧ Below w.heap.size w w' := by
  go_enter Tryd.func38, Tryd.ntmps38
  go_wp2
  exact bodyPost_ret (v := .agg #[.int .i64 n, .int .i64 n]) (by simp [results, Tryd.results38, go_sem]) rfl ⟨rfl, by go_grown⟩
set_option maxHeartbeats 1000000 in
theorem itoa_ex (w : World) : Calls Tryd.prog 73 #[.int .i64 5] w fun e w' => e = .returned (.string ⟨#[53]⟩) ∧ w = w' := by
  go_enter Tryd.func73, Tryd.ntmps73
  go_wp2
  go_ret
  exact ⟨rfl, rfl⟩
set_option maxHeartbeats 1000000 in
theorem text_ex (w : World) : Calls Tryd.prog 56 #[.agg #[.int .i64 5, .int .i64 5]] w fun e w' => e = .returned (.string ⟨#[53]⟩) ∧ Below w.heap.size w w' := by
  go_enter Tryd.func56, Tryd.ntmps56
  go_wp2_with fail
  refine (itoa_ex _).mono ?_
  rintro e w' ⟨rfl, rfl⟩
  go_wp2
  go_ret
  exact ⟨rfl, by go_grown⟩
set_option maxHeartbeats 1000000 in
theorem Text_ex (w : World) : Calls Tryd.prog 36 #[.agg #[.int .i64 5, .int .i64 5]] w fun e w' => e = .returned (.tuple #[.string ⟨#[53]⟩, .int .i64 0]) ∧ Below w.heap.size w w' := by
  have X := (Own.start w).alloc #[.int .i64 5, .int .i64 5] 23
  have hv : vB ⟨5, 5⟩ = true := by decide +kernel
  have V := valid_any ⟨5, 5⟩
  rw [hv] at V
  have HV := V
  clear V hv
  go_enter Tryd.func36, Tryd.ntmps36
  go_wp2_with fail
  refine (HV _).mono ?_
  rintro e w1 ⟨rfl, hb⟩
  replace X := X.to hb
  clear hb
  have hr := X.r1
  go_wp2_with fail
  refine (text_ex _).mono ?_
  rintro e w1 ⟨rfl, hb⟩
  replace X := X.to hb
  clear hb
  go_wp2
  go_ret2
  exact ⟨rfl, X.1⟩
set_option maxHeartbeats 4000000 in
theorem awake_any (w : World) : Calls Tryd.prog 11 #[] w fun e w' => e = .returned (.bool true) ∧ Below w.heap.size w w' := by
  have X := Own.start w
  go_enter Tryd.func11, Tryd.ntmps11
  go_wp2_with fail
  refine (ex_mul _).mono ?_
  rintro e w1 ⟨rfl, hb⟩
  replace X := (X.to hb).alloc #[.int .i64 (-15), .int .i64 12] 23
  clear hb
  have hr := X.r1
  go_wp2_with fail
  refine (ex_div _).mono ?_
  rintro e w2 ⟨rfl, hb⟩
  replace X := (X.to hb).alloc #[.int .i64 2, .int .i64 4] 23
  clear hb hr
  have hr := X.r2
  go_wp2_with fail
  refine (ex_tim _).mono ?_
  rintro e w3 ⟨rfl, hb⟩
  replace X := (X.to hb).alloc #[.int .i64 3, .int .i64 7] 23
  clear hb hr
  have hr := X.r3
  go_wp2_with fail
  refine (ex_roo _).mono ?_
  rintro e w4 ⟨rfl, hb⟩
  replace X := (X.to hb).alloc #[.int .i64 1, .int .i64 3] 23
  clear hb hr
  have hr := X.r4
  go_wp2_with fail
  refine (of_any _ _).mono ?_
  rintro e w5 ⟨rfl, hb⟩
  replace X := X.to hb
  clear hb hr
  have hr := X.r4
  go_wp2_with fail
  refine (Text_ex _).mono ?_
  rintro e w6 ⟨rfl, hb⟩
  replace X := X.to hb
  clear hb hr
  have hr := X.r4
  go_wp2
  go_ret
  exact ⟨rfl, X.1⟩
end Go.Proofs.YtgflgnbbkhikcaaDoor
