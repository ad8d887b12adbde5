/- The program's spans: fits, Valid, Of, result, Add, Neg, Sub, Hull, Meet; the reference's Valid, Has, Inside, fits, Add, Sub, Neg, Hull, Meet: what each returns; nothing that was there is turned. -/
import Derived.Test.YtgflgnbbkhikcaaDoorSpPlain
import Derived.Deep.QuietTactic
import Derived.BigQuiet
import Derived.StillTailTactics
import Derived.Deep.RegionHeld3
namespace Go.Proofs.YtgflgnbbkhikcaaDoor
open Go.RowKit

set_option maxHeartbeats 400000 in
theorem fits_any (n : Int) (w : World) : Calls Tryd.prog 58 #[.int .i64 n] w fun e w' => e = .returned (.bool (fitB n)) ∧ w = w' := by
  by_cases h1 : -72057594037927936 ≤ n <;> by_cases h2 : n ≤ 72057594037927936
  all_goals
    go_enter Tryd.func58, Tryd.ntmps58
    go_wp2
    go_ret
    refine ⟨ret_bool ?_, rfl⟩
    simp [fitB, h1, h2]
set_option maxHeartbeats 400000 in
theorem valid_any (a : Sp) (w : World) : Calls Tryd.prog 37 #[a.val] w fun e w' => e = .returned (.bool (vB a)) ∧ Below w.heap.size w w' := by
  by_cases h1 : a.lo ≤ a.hi
  · rcases Bool.eq_false_or_eq_true (fitB a.lo) with h2 | h2
    all_goals
      go_enter Tryd.func37, Tryd.ntmps37
      go_wp2_with fail
      refine (fits_any _ _).mono ?_
      rintro e w' ⟨rfl, rfl⟩
      rw [h2]
    · go_wp2_with fail
      refine (fits_any _ _).mono ?_
      rintro e w' ⟨rfl, rfl⟩
      go_wp2
      go_ret
      exact ⟨ret_bool (by simp [vB, h1, h2]), by go_grown⟩
    · go_wp2
      go_ret
      exact ⟨ret_bool (by simp [vB, h2]), by go_grown⟩
  · go_enter Tryd.func37, Tryd.ntmps37
    go_wp2
    go_ret
    have h2 : ¬ a.lo ≤ a.hi := by omega
    exact ⟨ret_bool (by simp [vB, h2]), by go_grown⟩
def RetSE (s : Sp) (er : Int) (w : World) (e : Ending) (w' : World) : Prop := e = .returned (.tuple #[s.val, .int .i64 er]) ∧ Below w.heap.size w w'
set_option maxHeartbeats 400000 in
theorem result_any (x y : Int) (w : World) : Calls Tryd.prog 53 #[.int .i64 x, .int .i64 y] w (RetSE (resS x y) (resE x y) w) := by
  rcases Bool.eq_false_or_eq_true (fitB x) with h2 | h2
  · rcases Bool.eq_false_or_eq_true (fitB y) with h3 | h3
    all_goals
      go_enter Tryd.func53, Tryd.ntmps53
      go_wp2_with fail
      refine (fits_any _ _).mono ?_
      rintro e w' ⟨rfl, rfl⟩
      rw [h2]
      go_wp2_with fail
      refine (fits_any _ _).mono ?_
      rintro e w' ⟨rfl, rfl⟩
      rw [h3]
      go_wp2
      simp only [resS, resE, h2, h3]
      first
      | exact bodyPost_ret (v := .tuple #[.agg #[.int .i64 x, .int .i64 y], .int .i64 0]) (by simp [results, Tryd.results53, go_sem]) rfl ⟨rfl, by go_grown⟩
      | exact bodyPost_ret (v := .tuple #[.agg #[.int .i64 0, .int .i64 0], .int .i64 5]) (by simp [results, Tryd.results53, go_sem]) rfl ⟨rfl, by go_grown⟩
  · go_enter Tryd.func53, Tryd.ntmps53
    go_wp2_with fail
    refine (fits_any _ _).mono ?_
    rintro e w' ⟨rfl, rfl⟩
    rw [h2]
    go_wp2
    simp only [resS, resE, h2]
    exact bodyPost_ret (v := .tuple #[.agg #[.int .i64 0, .int .i64 0], .int .i64 5]) (by simp [results, Tryd.results53, go_sem]) rfl ⟨rfl, by go_grown⟩
def op2E (a b : Sp) (x : Int) : Int := if vB a = true ∧ vB b = true then x else 1
def op2S (a b : Sp) (x : Sp) : Sp := if vB a = true ∧ vB b = true then x else Sp.zero
theorem op2_no1 {a b : Sp} (h : vB a = false) (x : Int) (s : Sp) : op2E a b x = 1 ∧ op2S a b s = Sp.zero := by simp [op2E, op2S, h]
theorem op2_no2 {a b : Sp} (h : vB b = false) (x : Int) (s : Sp) : op2E a b x = 1 ∧ op2S a b s = Sp.zero := by simp [op2E, op2S, h]
theorem op2_yes {a b : Sp} (h : vB a = true) (h' : vB b = true) (x : Int) (s : Sp) : op2E a b x = x ∧ op2S a b s = s := by simp [op2E, op2S, h, h']
theorem RetSE.mk {s s' : Sp} {er er' : Int} {w w' : World} (hb : Below w.heap.size w w') (h1 : s = s') (h2 : er = er') : RetSE s er w (.returned (.tuple #[s'.val, .int .i64 er'])) w' := by subst h1 h2; exact ⟨rfl, hb⟩
end Go.Proofs.YtgflgnbbkhikcaaDoor
