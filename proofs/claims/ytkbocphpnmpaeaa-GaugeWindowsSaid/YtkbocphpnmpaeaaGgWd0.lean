/- GaugeWindows: the law's walk (printed by gen_windows.py). -/
import Derived.Test.YtkbocphpnmpaeaaGgAwk
import Derived.Test.YtkbocphpnmpaeaaGgOne
import Derived.Test.YtkbocphpnmpaeaaGgRw
import Derived.Test.YtkbocphpnmpaeaaGgRg
import Derived.Test.YtkbocphpnmpaeaaGgMg6
import Derived.Test.YtkbocphpnmpaeaaGgPaP
import Derived.Test.YtkbocphpnmpaeaaGgRef
import Derived.Test.YtkbocphpnmpaeaaOwn3
namespace Go.Proofs.Ytkbocphpnmpaeaa
open Go.RowKit

set_option maxRecDepth 100000 in
set_option maxHeartbeats 4000000 in
theorem windows_big (fr st : Int) (l : List Int) (A : Option Addr) (c : Nat) (fr' st' : Int) (l' : List Int) (A' : Option Addr) (c' : Nat) (x y : Int) (w : World) (hs : SerSl w ⟨fr, st, l⟩ ⟨A, c⟩) (ht : SerSl w ⟨fr', st', l'⟩ ⟨A', c'⟩) (hn : (longP (l.length : Int) || longP (l'.length : Int)) = true) :
    Calls Try.prog 6 #[.agg #[.int .i64 fr, .int .i64 st, .slice A l.length c], .agg #[.int .i64 fr', .int .i64 st', .slice A' l'.length c'], .int .i64 x, .int .i64 y] w (BPost true w) := by
  have X := ((Own.start w).alloc #[.int .i64 fr, .int .i64 st, .slice A l.length c] 24).alloc #[.int .i64 fr', .int .i64 st', .slice A' l'.length c'] 24
  simp only [World.size_alloc] at X
  have HS := hide hs
  have HT := hide ht
  clear hs ht
  have hr := X.r2
  go_enter Try.func6, Try.ntmps6
  go_wp2_with fail
  refine (awake_any _).mono ?_
  rintro e wz ⟨rfl, hb⟩
  replace X := X.to hb
  clear hb hr
  have hr := X.r2
  have XB := X.alloc #[.int .i64 fr, .int .i64 st, .slice A l.length c, .int .i64 fr', .int .i64 st', .slice A' l'.length c'] 24
  go_wp2_with fail
  refine (few_two ⟨fr, st, l⟩ ⟨A, c⟩ ⟨fr', st', l'⟩ ⟨A', c'⟩ _ _ (XB.2 _ (List.mem_cons_self ..))).mono ?_
  rintro e wz ⟨rfl, hb⟩
  rw [show (longP (l.length : Int) || longP (l'.length : Int)) = true from hn]
  replace X := (XB.to hb).tail
  clear hb hr XB
  have hr := X.r2
  go_wp2
  go_ret
  exact ⟨rfl, X.1⟩
set_option maxRecDepth 100000 in
set_option maxHeartbeats 4000000 in
theorem windows_bad (fr st : Int) (l : List Int) (A : Option Addr) (c : Nat) (fr' st' : Int) (l' : List Int) (A' : Option Addr) (c' : Nat) (x y : Int) (w : World) (hs : SerSl w ⟨fr, st, l⟩ ⟨A, c⟩) (ht : SerSl w ⟨fr', st', l'⟩ ⟨A', c'⟩) (hn : l.length ≤ 200) (hn' : l'.length ≤ 200) (hv : vS ⟨fr, st, l⟩ = false) :
    Calls Try.prog 6 #[.agg #[.int .i64 fr, .int .i64 st, .slice A l.length c], .agg #[.int .i64 fr', .int .i64 st', .slice A' l'.length c'], .int .i64 x, .int .i64 y] w (BPost true w) := by
  have X := ((Own.start w).alloc #[.int .i64 fr, .int .i64 st, .slice A l.length c] 24).alloc #[.int .i64 fr', .int .i64 st', .slice A' l'.length c'] 24
  simp only [World.size_alloc] at X
  have HS := hide hs
  have HT := hide ht
  clear hs ht
  have NE : Hid (∀ W A5 c5, SerSl W Ser0 ⟨A5, c5⟩ → Calls Try.prog 12 #[.agg #[.int .i64 0, .int .i64 0, .slice A5 0 c5]] W (BPost true W)) := hide (fun W A5 c5 h => by
    have := none_any Ser0 ⟨A5, c5⟩ W h
    rw [show sameB Ser0 ⟨0, 0, []⟩ = true by decide] at this
    exact this)
  have WH : Hid (∀ W, SerSl W ⟨fr, st, l⟩ ⟨A, c⟩ → Calls Try.prog 27 #[.agg #[.int .i64 fr, .int .i64 st, .slice A l.length c], .int .i64 x, .int .i64 y] W (SerPost Ser0 1 W)) := hide (fun W h => window_bad ⟨fr, st, l⟩ ⟨A, c⟩ x y W h hv)
  have MH : Hid (∀ W, SerSl W ⟨fr, st, l⟩ ⟨A, c⟩ → SerSl W ⟨fr', st', l'⟩ ⟨A', c'⟩ → Calls Try.prog 29 #[.agg #[.int .i64 fr, .int .i64 st, .slice A l.length c], .agg #[.int .i64 fr', .int .i64 st', .slice A' l'.length c']] W (SerPost Ser0 1 W)) := hide (fun W h h' => merge_bad ⟨fr, st, l⟩ ⟨A, c⟩ ⟨fr', st', l'⟩ ⟨A', c'⟩ W h h' (.inl hv))
  have RV := fun W h => rfvalid17_any ⟨fr, st, l⟩ ⟨A, c⟩ W h
  rw [hv] at RV
  have RVH : Hid (∀ W, SerSl W ⟨fr, st, l⟩ ⟨A, c⟩ → Calls Try.prog 16 #[.agg #[.int .i64 fr, .int .i64 st, .slice A l.length c]] W (BPost false W)) := hide RV
  clear RV
  have hr := X.r2
  go_enter Try.func6, Try.ntmps6
  go_wp2_with fail
  refine (awake_any _).mono ?_
  rintro e wz ⟨rfl, hb⟩
  replace X := X.to hb
  clear hb hr
  have hr := X.r2
  have XB := X.alloc #[.int .i64 fr, .int .i64 st, .slice A l.length c, .int .i64 fr', .int .i64 st', .slice A' l'.length c'] 24
  go_wp2_with fail
  refine (few_two ⟨fr, st, l⟩ ⟨A, c⟩ ⟨fr', st', l'⟩ ⟨A', c'⟩ _ _ (XB.2 _ (List.mem_cons_self ..))).mono ?_
  rintro e wz ⟨rfl, hb⟩
  rw [show (longP (l.length : Int) || longP (l'.length : Int)) = false by rw [long_no hn, long_no hn']; rfl]
  replace X := (XB.to hb).tail
  clear hb hr XB
  have hr := X.r2
  go_wp2_with fail
  refine (WH.out _ (HS.out.below X.1)).mono ?_
  intro e wA hq
  obtain ⟨hb, A1, c1, rfl, hs3⟩ := hq.out
  replace X := (X.to hb).alloc #[.int .i64 0, .int .i64 0, .slice A1 0 c1] 24
  have bA : Below wA.heap.size wA (wA.alloc (.cells #[.int .i64 0, .int .i64 0, .slice A1 0 c1] 24)) := (Below.refl _ _).alloc (Nat.le_refl _) _
  have HA := hide (SerSl.below hs3 bA)
  clear hb hr hq hs3 bA
  have hr := X.r3
  go_wp2_with fail
  refine (MH.out _ (HS.out.below X.1) (HT.out.below X.1)).mono ?_
  intro e wB hq
  obtain ⟨hb, A2, c2, rfl, hs3⟩ := hq.out
  replace X := (X.to hb).alloc #[.int .i64 0, .int .i64 0, .slice A2 0 c2] 24
  have bA : Below wB.heap.size wB (wB.alloc (.cells #[.int .i64 0, .int .i64 0, .slice A2 0 c2] 24)) := (Below.refl _ _).alloc (Nat.le_refl _) _
  replace HA := hide (SerSl.below (SerSl.below HA.out hb) bA)
  have HB := hide (SerSl.below hs3 bA)
  clear hb hr hq hs3 bA
  have hr := X.r4
  go_wp2_with fail
  refine (RVH.out _ (HS.out.below X.1)).mono ?_
  rintro e wz ⟨rfl, hb⟩
  replace X := X.to hb
  replace HA := hide (HA.out.below hb)
  replace HB := hide (HB.out.below hb)
  clear hb hr
  have hr := X.r4
  go_wp2_with fail
  refine (NE.out _ _ _ HA.out).mono ?_
  rintro e wz ⟨rfl, hb⟩
  replace X := X.to hb
  replace HB := hide (HB.out.below hb)
  clear hb hr
  have hr := X.r4
  go_wp2_with fail
  refine (NE.out _ _ _ HB.out).mono ?_
  rintro e wz ⟨rfl, hb⟩
  replace X := X.to hb
  clear hb hr
  have hr := X.r4
  go_wp2
  go_ret
  exact ⟨rfl, X.1⟩
end Go.Proofs.Ytkbocphpnmpaeaa
