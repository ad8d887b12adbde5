/- GaugeGreater: the law's walk (printed by gen_greater.py). -/
import Derived.Test.YtkbocphpnmpaeaaGgAwk
import Derived.Test.YtkbocphpnmpaeaaGgOne
import Derived.Test.YtkbocphpnmpaeaaGgWin
import Derived.Test.YtkbocphpnmpaeaaGgSrt
namespace Go.Proofs.Ytkbocphpnmpaeaa
open Go.RowKit

set_option maxRecDepth 100000 in
set_option maxHeartbeats 4000000 in
theorem greater_big (s : Ser) (q : SerA) (an bn : Nat) (w : World) (hs : SerSl w s q) (hA : q.A = none → q.c = 0) (hn : 200 < s.ds.length) :
    Calls Try.prog 5 #[s.val q, .int .u8 (an : Int), .int .u8 (bn : Int)] w (BPost true w) := by
  obtain ⟨A, c⟩ := q
  have X := (Own.start w).alloc #[.int .i64 s.fr, .int .i64 s.st, .slice A s.ds.length c] 24
  have HS := hide hs
  have HAC := hide hA
  have n1 : (0 : Int) ≤ (s.ds.length : Int) := by omega
  clear hs hA
  have hr := X.r1
  go_enter Try.func5, Try.ntmps5
  go_wp2_with fail
  refine (awake_any _).mono ?_
  rintro e wz ⟨rfl, hb⟩
  replace X := X.to hb
  clear hb hr
  have hr := X.r1
  have XB := X.alloc #[.int .i64 s.fr, .int .i64 s.st, .slice A s.ds.length c] 24
  go_wp2_with fail
  refine (few_one s ⟨A, c⟩ _ _ (XB.2 _ (List.mem_cons_self ..))).mono ?_
  rintro e wz ⟨rfl, hb⟩
  rw [long_yes hn]
  replace X := (XB.to hb).tail
  clear hb hr XB
  have hr := X.r1
  go_wp2
  go_ret
  exact ⟨rfl, X.1⟩
set_option maxRecDepth 100000 in
set_option maxHeartbeats 4000000 in
theorem greater_bad' (s : Ser) (q : SerA) (an bn : Nat) (w : World) (hs : SerSl w s q) (hA : q.A = none → q.c = 0) (hn : s.ds.length ≤ 200) (hv : vS s = false) :
    Calls Try.prog 5 #[s.val q, .int .u8 (an : Int), .int .u8 (bn : Int)] w (BPost true w) := by
  obtain ⟨A, c⟩ := q
  have X := (Own.start w).alloc #[.int .i64 s.fr, .int .i64 s.st, .slice A s.ds.length c] 24
  have HS := hide hs
  have HAC := hide hA
  have n1 : (0 : Int) ≤ (s.ds.length : Int) := by omega
  clear hs hA
  have hr := X.r1
  go_enter Try.func5, Try.ntmps5
  go_wp2_with fail
  refine (awake_any _).mono ?_
  rintro e wz ⟨rfl, hb⟩
  replace X := X.to hb
  clear hb hr
  have hr := X.r1
  have XB := X.alloc #[.int .i64 s.fr, .int .i64 s.st, .slice A s.ds.length c] 24
  go_wp2_with fail
  refine (few_one s ⟨A, c⟩ _ _ (XB.2 _ (List.mem_cons_self ..))).mono ?_
  rintro e wz ⟨rfl, hb⟩
  rw [long_no hn]
  replace X := (XB.to hb).tail
  clear hb hr XB
  have hr := X.r1
  go_wp2_with fail
  refine (gvalid_any s ⟨A, c⟩ _ (HS.out.below X.1)).mono ?_
  rintro e wz ⟨rfl, hb⟩
  rw [hv]
  replace X := X.to hb
  clear hb hr
  have hr := X.r1
  go_wp2
  go_ret
  exact ⟨rfl, X.1⟩
set_option maxRecDepth 100000 in
set_option maxHeartbeats 4000000 in
theorem greater_none (s : Ser) (q : SerA) (an bn : Nat) (w : World) (hs : SerSl w s q) (hA : q.A = none → q.c = 0) (hn : s.ds.length ≤ 200) (hv : vS s = true) (h0 : s.ds.length = 0) :
    Calls Try.prog 5 #[s.val q, .int .u8 (an : Int), .int .u8 (bn : Int)] w (BPost true w) := by
  obtain ⟨A, c⟩ := q
  have X := (Own.start w).alloc #[.int .i64 s.fr, .int .i64 s.st, .slice A s.ds.length c] 24
  have HS := hide hs
  have HAC := hide hA
  have n1 : (0 : Int) ≤ (s.ds.length : Int) := by omega
  clear hs hA
  have z1 : ((s.ds.length : Int) == 0) = true := by rw [h0]; rfl
  clear h0
  have hr := X.r1
  go_enter Try.func5, Try.ntmps5
  go_wp2_with fail
  refine (awake_any _).mono ?_
  rintro e wz ⟨rfl, hb⟩
  replace X := X.to hb
  clear hb hr
  have hr := X.r1
  have XB := X.alloc #[.int .i64 s.fr, .int .i64 s.st, .slice A s.ds.length c] 24
  go_wp2_with fail
  refine (few_one s ⟨A, c⟩ _ _ (XB.2 _ (List.mem_cons_self ..))).mono ?_
  rintro e wz ⟨rfl, hb⟩
  rw [long_no hn]
  replace X := (XB.to hb).tail
  clear hb hr XB
  have hr := X.r1
  go_wp2_with fail
  refine (gvalid_any s ⟨A, c⟩ _ (HS.out.below X.1)).mono ?_
  rintro e wz ⟨rfl, hb⟩
  rw [hv]
  replace X := X.to hb
  clear hb hr
  have hr := X.r1
  go_wp2
  go_ret
  exact ⟨rfl, X.1⟩
end Go.Proofs.Ytkbocphpnmpaeaa
