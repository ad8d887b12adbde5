/- GaugeParts: the law's walk (printed by gen_parts.py). -/
import Derived.Test.YtkbocphpnmpaeaaGgAwk
import Derived.Test.YtkbocphpnmpaeaaGgOne
import Derived.Test.YtkbocphpnmpaeaaGgWin
import Derived.Test.YtkbocphpnmpaeaaGgMg6
import Derived.Test.YtkbocphpnmpaeaaGgPaP
import Derived.Test.YtkbocphpnmpaeaaOwn3
namespace Go.Proofs.Ytkbocphpnmpaeaa
open Go.RowKit

set_option maxRecDepth 100000 in
set_option maxHeartbeats 4000000 in
theorem parts_big (fr st : Int) (l : List Int) (A : Option Addr) (c : Nat) (fr' st' : Int) (l' : List Int) (A' : Option Addr) (c' : Nat) (cn : Nat) (w : World) (hs : SerSl w ⟨fr, st, l⟩ ⟨A, c⟩) (ht : SerSl w ⟨fr', st', l'⟩ ⟨A', c'⟩) (hn : (longP (l.length : Int) || longP (l'.length : Int)) = true) :
    Calls Try.prog 7 #[.agg #[.int .i64 fr, .int .i64 st, .slice A l.length c], .agg #[.int .i64 fr', .int .i64 st', .slice A' l'.length c'], .int .u8 (cn : Int)] w (BPost true w) := by
  have X := ((Own.start w).alloc #[.int .i64 fr, .int .i64 st, .slice A l.length c] 24).alloc #[.int .i64 fr', .int .i64 st', .slice A' l'.length c'] 24
  simp only [World.size_alloc] at X
  have HS := hide hs
  have HT := hide ht
  clear hs ht
  have hr := X.r2
  go_enter Try.func7, Try.ntmps7
  go_wp2_with fail
  refine (awake_any _).mono ?_
  rintro e wz ⟨rfl, hb⟩
  replace X := X.to hb
  clear hb hr
  have hr := X.r2
  have XB := X.alloc #[.int .i64 fr, .int .i64 st, .slice A l.length c, .int .i64 fr', .int .i64 st', .slice A' l'.length c'] 24
  go_wp2_with fail
  refine (few_two ⟨fr, st, l⟩ ⟨A, c⟩ ⟨fr', st', l'⟩ ⟨A', c'⟩ _ _ (XB.2 _ (List.mem_cons_self ..))).mono ?_
  rintro e wz ⟨rfl, hb⟩
  rw [show (longP (l.length : Int) || longP (l'.length : Int)) = true from hn]
  replace X := (XB.to hb).tail
  clear hb hr XB
  have hr := X.r2
  go_wp2
  go_ret
  exact ⟨rfl, X.1⟩
set_option maxRecDepth 100000 in
set_option maxHeartbeats 4000000 in
theorem parts_bad (fr st : Int) (l : List Int) (A : Option Addr) (c : Nat) (fr' st' : Int) (l' : List Int) (A' : Option Addr) (c' : Nat) (cn : Nat) (w : World) (hs : SerSl w ⟨fr, st, l⟩ ⟨A, c⟩) (ht : SerSl w ⟨fr', st', l'⟩ ⟨A', c'⟩) (hn : l.length ≤ 200) (hn' : l'.length ≤ 200) (hv : vS ⟨fr, st, l⟩ = false) :
    Calls Try.prog 7 #[.agg #[.int .i64 fr, .int .i64 st, .slice A l.length c], .agg #[.int .i64 fr', .int .i64 st', .slice A' l'.length c'], .int .u8 (cn : Int)] w (BPost true w) := by
  have X := ((Own.start w).alloc #[.int .i64 fr, .int .i64 st, .slice A l.length c] 24).alloc #[.int .i64 fr', .int .i64 st', .slice A' l'.length c'] 24
  simp only [World.size_alloc] at X
  have HS := hide hs
  have HT := hide ht
  clear hs ht
  have hr := X.r2
  go_enter Try.func7, Try.ntmps7
  go_wp2_with fail
  refine (awake_any _).mono ?_
  rintro e wz ⟨rfl, hb⟩
  replace X := X.to hb
  clear hb hr
  have hr := X.r2
  have XB := X.alloc #[.int .i64 fr, .int .i64 st, .slice A l.length c, .int .i64 fr', .int .i64 st', .slice A' l'.length c'] 24
  go_wp2_with fail
  refine (few_two ⟨fr, st, l⟩ ⟨A, c⟩ ⟨fr', st', l'⟩ ⟨A', c'⟩ _ _ (XB.2 _ (List.mem_cons_self ..))).mono ?_
  rintro e wz ⟨rfl, hb⟩
  rw [show (longP (l.length : Int) || longP (l'.length : Int)) = false by rw [long_no hn, long_no hn']; rfl]
  replace X := (XB.to hb).tail
  clear hb hr XB
  have hr := X.r2
  go_wp2_with fail
  refine (gvalid_any ⟨fr, st, l⟩ ⟨A, c⟩ _ (HS.out.below X.1)).mono ?_
  rintro e wz ⟨rfl, hb⟩
  rw [hv]
  replace X := X.to hb
  clear hb hr
  have hr := X.r2
  go_wp2
  go_ret
  exact ⟨rfl, X.1⟩
end Go.Proofs.Ytkbocphpnmpaeaa
