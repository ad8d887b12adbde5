/- Small contracts for the laws of chapter 17: few at one and at two records; Greatest of an invalid record, and out of range. -/
import Derived.Test.YtkbocphpnmpaeaaGgFew
import Derived.Test.YtkbocphpnmpaeaaGgFn
namespace Go.Proofs.Ytkbocphpnmpaeaa
open Go.RowKit

theorem few_one (s : Ser) (a : SerA) (b : Nat) (W : World) (h : Blk W b 24 (s.cells a)) : Calls Try.prog 9 #[.slice (some ⟨b, 0, none⟩) 1 1] W (BPost (!longP (s.ds.length : Int)) W) := by
  have := few_any [(s, a)] b 0 1 W ⟨h.lt, fun i hi => by
    have hi' : i < 1 := hi
    obtain rfl : i = 0 := by omega
    exact ⟨h.cell 0, h.cell 1, h.cell 2⟩⟩ (by simp)
  rw [show (lens [(s, a)]).any longP = longP (s.ds.length : Int) by simp [lens]] at this
  exact this
theorem few_two (s : Ser) (a : SerA) (t : Ser) (c : SerA) (b : Nat) (W : World) (h : Blk W b 24 #[.int .i64 s.fr, .int .i64 s.st, .slice a.A s.ds.length a.c, .int .i64 t.fr, .int .i64 t.st, .slice c.A t.ds.length c.c]) : Calls Try.prog 9 #[.slice (some ⟨b, 0, none⟩) 2 2] W (BPost (!(longP (s.ds.length : Int) || longP (t.ds.length : Int))) W) := by
  have := few_any [(s, a), (t, c)] b 0 2 W ⟨h.lt, fun i hi => by
    have hi' : i < 2 := hi
    match i, hi' with
    | 0, _ => exact ⟨h.cell 0, h.cell 1, h.cell 2⟩
    | 1, _ => exact ⟨h.cell 3, h.cell 4, h.cell 5⟩⟩ (by simp)
  rw [show (lens [(s, a), (t, c)]).any longP = (longP (s.ds.length : Int) || longP (t.ds.length : Int)) by simp [lens]] at this
  exact this
theorem long_yes {n : Nat} (h : 200 < n) : longP (n : Int) = true := decide_eq_true (by omega)
theorem long_no {n : Nat} (h : n ≤ 200) : longP (n : Int) = false := decide_eq_false (by omega)
set_option maxHeartbeats 1000000 in
theorem greatest_bad (s : Ser) (a : SerA) (k : Int) (w : World) (hs : SerSl w s a) (hv : vS s = false) : Calls Try.prog 19 #[s.val a, .int .i64 k] w (GrPost 0 0 1 w) := by
  have V := hide (fun W (h : SerSl W s a) => gvalid_any s a W h)
  rw [hv] at V
  have HS := hide hs
  have X := (Own.start w).alloc (s.cells a) 24
  clear hs hv
  have hr := X.r1
  go_enter Try.func19, Try.ntmps19
  go_wp2_with fail
  refine (V.out _ (HS.out.below X.1)).mono ?_
  rintro e w1 ⟨rfl, hb⟩
  replace X := X.to hb
  clear hb hr
  go_wp2
  go_ret3
  exact GrPost.mk rfl rfl rfl X.1
set_option maxHeartbeats 1000000 in
theorem greatest_range (s : Ser) (a : SerA) (k : Int) (w : World) (hs : SerSl w s a) (hv : vS s = true) (hk : k < 1 ∨ (1 ≤ k ∧ (s.ds.length : Int) < k)) : Calls Try.prog 19 #[s.val a, .int .i64 k] w (GrPost 0 0 2 w) := by
  have V := hide (fun W (h : SerSl W s a) => gvalid_any s a W h)
  rw [hv] at V
  have HS := hide hs
  have X := (Own.start w).alloc (s.cells a) 24
  clear hs hv
  have hr := X.r1
  rcases hk with hk | ⟨hk1, hk2⟩
  all_goals
    go_enter Try.func19, Try.ntmps19
    go_wp2_with fail
    refine (V.out _ (HS.out.below X.1)).mono ?_
    rintro e w1 ⟨rfl, hb⟩
    replace X := X.to hb
    clear hb hr
    have hr := X.r1
    go_wp2
    go_ret3
    exact GrPost.mk rfl rfl rfl X.1
end Go.Proofs.Ytkbocphpnmpaeaa
