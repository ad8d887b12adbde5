/- GaugeWindows: the law's walk (printed by gen_windows.py). -/
import Derived.Test.YtkbocphpnmpaeaaGgWd0
namespace Go.Proofs.Ytkbocphpnmpaeaa
open Go.RowKit

set_option maxRecDepth 100000 in
set_option maxHeartbeats 4000000 in
theorem windows_neg_0 (fr st : Int) (l : List Int) (A : Option Addr) (c : Nat) (fr' st' : Int) (l' : List Int) (A' : Option Addr) (c' : Nat) (x y : Int) (w : World) (hs : SerSl w ⟨fr, st, l⟩ ⟨A, c⟩) (ht : SerSl w ⟨fr', st', l'⟩ ⟨A', c'⟩) (hn : l.length ≤ 200) (hn' : l'.length ≤ 200) (hv : vS ⟨fr, st, l⟩ = true) (hv2 : vS ⟨fr', st', l'⟩ = false) (hk : x < 0) :
    Calls Try.prog 6 #[.agg #[.int .i64 fr, .int .i64 st, .slice A l.length c], .agg #[.int .i64 fr', .int .i64 st', .slice A' l'.length c'], .int .i64 x, .int .i64 y] w (BPost true w) := by
  have X := ((Own.start w).alloc #[.int .i64 fr, .int .i64 st, .slice A l.length c] 24).alloc #[.int .i64 fr', .int .i64 st', .slice A' l'.length c'] 24
  simp only [World.size_alloc] at X
  have HS := hide hs
  have HT := hide ht
  clear hs ht
  have NE : Hid (∀ W A5 c5, SerSl W Ser0 ⟨A5, c5⟩ → Calls Try.prog 12 #[.agg #[.int .i64 0, .int .i64 0, .slice A5 0 c5]] W (BPost true W)) := hide (fun W A5 c5 h => by
    have := none_any Ser0 ⟨A5, c5⟩ W h
    rw [show sameB Ser0 ⟨0, 0, []⟩ = true by decide] at this
    exact this)
  have WH : Hid (∀ W, SerSl W ⟨fr, st, l⟩ ⟨A, c⟩ → Calls Try.prog 27 #[.agg #[.int .i64 fr, .int .i64 st, .slice A l.length c], .int .i64 x, .int .i64 y] W (SerPost Ser0 2 W)) := hide (fun W h => window_range ⟨fr, st, l⟩ ⟨A, c⟩ x y W h hv (.inl hk))
  have MH : Hid (∀ W, SerSl W ⟨fr, st, l⟩ ⟨A, c⟩ → SerSl W ⟨fr', st', l'⟩ ⟨A', c'⟩ → Calls Try.prog 29 #[.agg #[.int .i64 fr, .int .i64 st, .slice A l.length c], .agg #[.int .i64 fr', .int .i64 st', .slice A' l'.length c']] W (SerPost Ser0 1 W)) := hide (fun W h h' => merge_bad ⟨fr, st, l⟩ ⟨A, c⟩ ⟨fr', st', l'⟩ ⟨A', c'⟩ W h h' (.inr ⟨hv, hv2⟩))
  have RV2 := fun W h => rfvalid17_any ⟨fr', st', l'⟩ ⟨A', c'⟩ W h
  rw [hv2] at RV2
  have RVH2 : Hid (∀ W, SerSl W ⟨fr', st', l'⟩ ⟨A', c'⟩ → Calls Try.prog 16 #[.agg #[.int .i64 fr', .int .i64 st', .slice A' l'.length c']] W (BPost false W)) := hide RV2
  clear RV2
  have RV := fun W h => rfvalid17_any ⟨fr, st, l⟩ ⟨A, c⟩ W h
  rw [hv] at RV
  have RVH : Hid (∀ W, SerSl W ⟨fr, st, l⟩ ⟨A, c⟩ → Calls Try.prog 16 #[.agg #[.int .i64 fr, .int .i64 st, .slice A l.length c]] W (BPost true W)) := hide RV
  clear RV
  have k1 : decide (x < 0) = true := decide_eq_true hk
  clear hk
  have hr := X.r2
  go_enter Try.func6, Try.ntmps6
  go_wp2_with fail
  refine (awake_any _).mono ?_
  rintro e wz ⟨rfl, hb⟩
  replace X := X.to hb
  clear hb hr
  have hr := X.r2
  have XB := X.alloc #[.int .i64 fr, .int .i64 st, .slice A l.length c, .int .i64 fr', .int .i64 st', .slice A' l'.length c'] 24
  go_wp2_with fail
  refine (few_two ⟨fr, st, l⟩ ⟨A, c⟩ ⟨fr', st', l'⟩ ⟨A', c'⟩ _ _ (XB.2 _ (List.mem_cons_self ..))).mono ?_
  rintro e wz ⟨rfl, hb⟩
  rw [show (longP (l.length : Int) || longP (l'.length : Int)) = false by rw [long_no hn, long_no hn']; rfl]
  replace X := (XB.to hb).tail
  clear hb hr XB
  have hr := X.r2
  go_wp2_with fail
  refine (WH.out _ (HS.out.below X.1)).mono ?_
  intro e wA hq
  obtain ⟨hb, A1, c1, rfl, hs3⟩ := hq.out
  replace X := (X.to hb).alloc #[.int .i64 0, .int .i64 0, .slice A1 0 c1] 24
  have bA : Below wA.heap.size wA (wA.alloc (.cells #[.int .i64 0, .int .i64 0, .slice A1 0 c1] 24)) := (Below.refl _ _).alloc (Nat.le_refl _) _
  have HA := hide (SerSl.below hs3 bA)
  clear hb hr hq hs3 bA
  have hr := X.r3
  go_wp2_with fail
  refine (MH.out _ (HS.out.below X.1) (HT.out.below X.1)).mono ?_
  intro e wB hq
  obtain ⟨hb, A2, c2, rfl, hs3⟩ := hq.out
  replace X := (X.to hb).alloc #[.int .i64 0, .int .i64 0, .slice A2 0 c2] 24
  have bA : Below wB.heap.size wB (wB.alloc (.cells #[.int .i64 0, .int .i64 0, .slice A2 0 c2] 24)) := (Below.refl _ _).alloc (Nat.le_refl _) _
  replace HA := hide (SerSl.below (SerSl.below HA.out hb) bA)
  have HB := hide (SerSl.below hs3 bA)
  clear hb hr hq hs3 bA
  have hr := X.r4
  go_wp2_with fail
  refine (RVH.out _ (HS.out.below X.1)).mono ?_
  rintro e wz ⟨rfl, hb⟩
  replace X := X.to hb
  replace HA := hide (HA.out.below hb)
  replace HB := hide (HB.out.below hb)
  clear hb hr
  have hr := X.r4
  go_wp2_with fail
  refine (NE.out _ _ _ HA.out).mono ?_
  rintro e wz ⟨rfl, hb⟩
  replace X := X.to hb
  replace HB := hide (HB.out.below hb)
  clear hb hr
  have hr := X.r4
  go_wp2_with fail
  refine (RVH2.out _ (HT.out.below X.1)).mono ?_
  rintro e wz ⟨rfl, hb⟩
  replace X := X.to hb
  replace HB := hide (HB.out.below hb)
  clear hb hr
  have hr := X.r4
  go_wp2_with fail
  refine (NE.out _ _ _ HB.out).mono ?_
  rintro e wz ⟨rfl, hb⟩
  replace X := X.to hb
  clear hb hr
  have hr := X.r4
  go_wp2
  go_ret
  exact ⟨rfl, X.1⟩
set_option maxRecDepth 100000 in
set_option maxHeartbeats 4000000 in
theorem windows_neg_1 (fr st : Int) (l : List Int) (A : Option Addr) (c : Nat) (fr' st' : Int) (l' : List Int) (A' : Option Addr) (c' : Nat) (x y : Int) (w : World) (hs : SerSl w ⟨fr, st, l⟩ ⟨A, c⟩) (ht : SerSl w ⟨fr', st', l'⟩ ⟨A', c'⟩) (hn : l.length ≤ 200) (hn' : l'.length ≤ 200) (hv : vS ⟨fr, st, l⟩ = true) (hv2 : vS ⟨fr', st', l'⟩ = true) (hk : x < 0) :
    Calls Try.prog 6 #[.agg #[.int .i64 fr, .int .i64 st, .slice A l.length c], .agg #[.int .i64 fr', .int .i64 st', .slice A' l'.length c'], .int .i64 x, .int .i64 y] w (BPost true w) := by
  have X := ((Own.start w).alloc #[.int .i64 fr, .int .i64 st, .slice A l.length c] 24).alloc #[.int .i64 fr', .int .i64 st', .slice A' l'.length c'] 24
  simp only [World.size_alloc] at X
  have HS := hide hs
  have HT := hide ht
  clear hs ht
  have NE : Hid (∀ W A5 c5, SerSl W Ser0 ⟨A5, c5⟩ → Calls Try.prog 12 #[.agg #[.int .i64 0, .int .i64 0, .slice A5 0 c5]] W (BPost true W)) := hide (fun W A5 c5 h => by
    have := none_any Ser0 ⟨A5, c5⟩ W h
    rw [show sameB Ser0 ⟨0, 0, []⟩ = true by decide] at this
    exact this)
  have WH : Hid (∀ W, SerSl W ⟨fr, st, l⟩ ⟨A, c⟩ → Calls Try.prog 27 #[.agg #[.int .i64 fr, .int .i64 st, .slice A l.length c], .int .i64 x, .int .i64 y] W (SerPost Ser0 2 W)) := hide (fun W h => window_range ⟨fr, st, l⟩ ⟨A, c⟩ x y W h hv (.inl hk))
  have MH : Hid (∀ W, SerSl W ⟨fr, st, l⟩ ⟨A, c⟩ → SerSl W ⟨fr', st', l'⟩ ⟨A', c'⟩ → Calls Try.prog 29 #[.agg #[.int .i64 fr, .int .i64 st, .slice A l.length c], .agg #[.int .i64 fr', .int .i64 st', .slice A' l'.length c']] W (SerPost (mgS ⟨fr, st, l⟩ ⟨fr', st', l'⟩) (mgE ⟨fr, st, l⟩ ⟨fr', st', l'⟩) W)) := hide (fun W h h' => merge_any ⟨fr, st, l⟩ ⟨A, c⟩ ⟨fr', st', l'⟩ ⟨A', c'⟩ W h h')
  have RM : Hid (∀ W, SerSl W ⟨fr, st, l⟩ ⟨A, c⟩ → SerSl W ⟨fr', st', l'⟩ ⟨A', c'⟩ → Calls Try.prog 31 #[.agg #[.int .i64 fr, .int .i64 st, .slice A l.length c], .agg #[.int .i64 fr', .int .i64 st', .slice A' l'.length c']] W (SerPost (mgS ⟨fr, st, l⟩ ⟨fr', st', l'⟩) (mgE ⟨fr, st, l⟩ ⟨fr', st', l'⟩) W)) := hide (fun W h h' => rmerge_any ⟨fr, st, l⟩ ⟨A, c⟩ ⟨fr', st', l'⟩ ⟨A', c'⟩ W h h' (vS_iff.1 hv) (vS_iff.1 hv2))
  generalize mgE ⟨fr, st, l⟩ ⟨fr', st', l'⟩ = E at *
  generalize hm : mgS ⟨fr, st, l⟩ ⟨fr', st', l'⟩ = m at *
  clear hm
  obtain ⟨F, Q, Z⟩ := m
  have SM : Hid (∀ W A4 c4 A5 c5, SerSl W ⟨F, Q, Z⟩ ⟨A4, c4⟩ → SerSl W ⟨F, Q, Z⟩ ⟨A5, c5⟩ → Calls Try.prog 15 #[.agg #[.int .i64 F, .int .i64 Q, .slice A4 Z.length c4], .agg #[.int .i64 F, .int .i64 Q, .slice A5 Z.length c5]] W (BPost true W)) := hide (fun W A4 c4 A5 c5 h h' => by
    have := same_any ⟨F, Q, Z⟩ ⟨A4, c4⟩ ⟨F, Q, Z⟩ ⟨A5, c5⟩ W h h'
    rw [show sameB ⟨F, Q, Z⟩ ⟨F, Q, Z⟩ = true from sameB_yes ⟨rfl, rfl, rfl⟩] at this
    exact this)
  have RV2 := fun W h => rfvalid17_any ⟨fr', st', l'⟩ ⟨A', c'⟩ W h
  rw [hv2] at RV2
  have RVH2 : Hid (∀ W, SerSl W ⟨fr', st', l'⟩ ⟨A', c'⟩ → Calls Try.prog 16 #[.agg #[.int .i64 fr', .int .i64 st', .slice A' l'.length c']] W (BPost true W)) := hide RV2
  clear RV2
  have RV := fun W h => rfvalid17_any ⟨fr, st, l⟩ ⟨A, c⟩ W h
  rw [hv] at RV
  have RVH : Hid (∀ W, SerSl W ⟨fr, st, l⟩ ⟨A, c⟩ → Calls Try.prog 16 #[.agg #[.int .i64 fr, .int .i64 st, .slice A l.length c]] W (BPost true W)) := hide RV
  clear RV
  have k1 : decide (x < 0) = true := decide_eq_true hk
  clear hk
  have hr := X.r2
  go_enter Try.func6, Try.ntmps6
  go_wp2_with fail
  refine (awake_any _).mono ?_
  rintro e wz ⟨rfl, hb⟩
  replace X := X.to hb
  clear hb hr
  have hr := X.r2
  have XB := X.alloc #[.int .i64 fr, .int .i64 st, .slice A l.length c, .int .i64 fr', .int .i64 st', .slice A' l'.length c'] 24
  go_wp2_with fail
  refine (few_two ⟨fr, st, l⟩ ⟨A, c⟩ ⟨fr', st', l'⟩ ⟨A', c'⟩ _ _ (XB.2 _ (List.mem_cons_self ..))).mono ?_
  rintro e wz ⟨rfl, hb⟩
  rw [show (longP (l.length : Int) || longP (l'.length : Int)) = false by rw [long_no hn, long_no hn']; rfl]
  replace X := (XB.to hb).tail
  clear hb hr XB
  have hr := X.r2
  go_wp2_with fail
  refine (WH.out _ (HS.out.below X.1)).mono ?_
  intro e wA hq
  obtain ⟨hb, A1, c1, rfl, hs3⟩ := hq.out
  replace X := (X.to hb).alloc #[.int .i64 0, .int .i64 0, .slice A1 0 c1] 24
  have bA : Below wA.heap.size wA (wA.alloc (.cells #[.int .i64 0, .int .i64 0, .slice A1 0 c1] 24)) := (Below.refl _ _).alloc (Nat.le_refl _) _
  have HA := hide (SerSl.below hs3 bA)
  clear hb hr hq hs3 bA
  have hr := X.r3
  go_wp2_with fail
  refine (MH.out _ (HS.out.below X.1) (HT.out.below X.1)).mono ?_
  intro e wB hq
  obtain ⟨hb, A2, c2, rfl, hs3⟩ := hq.out
  replace X := (X.to hb).alloc #[.int .i64 F, .int .i64 Q, .slice A2 Z.length c2] 24
  have bA : Below wB.heap.size wB (wB.alloc (.cells #[.int .i64 F, .int .i64 Q, .slice A2 Z.length c2] 24)) := (Below.refl _ _).alloc (Nat.le_refl _) _
  replace HA := hide (SerSl.below (SerSl.below HA.out hb) bA)
  have HB := hide (SerSl.below hs3 bA)
  clear hb hr hq hs3 bA
  have hr := X.r4
  go_wp2_with fail
  refine (RVH.out _ (HS.out.below X.1)).mono ?_
  rintro e wz ⟨rfl, hb⟩
  replace X := X.to hb
  replace HA := hide (HA.out.below hb)
  replace HB := hide (HB.out.below hb)
  clear hb hr
  have hr := X.r4
  go_wp2_with fail
  refine (NE.out _ _ _ HA.out).mono ?_
  rintro e wz ⟨rfl, hb⟩
  replace X := X.to hb
  replace HB := hide (HB.out.below hb)
  clear hb hr
  have hr := X.r4
  go_wp2_with fail
  refine (RVH2.out _ (HT.out.below X.1)).mono ?_
  rintro e wz ⟨rfl, hb⟩
  replace X := X.to hb
  replace HB := hide (HB.out.below hb)
  clear hb hr
  have hr := X.r4
  go_wp2_with fail
  refine (RM.out _ (HS.out.below X.1) (HT.out.below X.1)).mono ?_
  intro e wM hq
  obtain ⟨hb, A6, c6, rfl, hs3⟩ := hq.out
  replace X := (X.to hb).alloc #[.int .i64 F, .int .i64 Q, .slice A6 Z.length c6] 24
  have bA : Below wM.heap.size wM (wM.alloc (.cells #[.int .i64 F, .int .i64 Q, .slice A6 Z.length c6] 24)) := (Below.refl _ _).alloc (Nat.le_refl _) _
  replace HB := hide (SerSl.below (SerSl.below HB.out hb) bA)
  have HM := hide (SerSl.below hs3 bA)
  clear hb hr hq hs3 bA
  have hr := X.r5
  go_wp2_with fail
  refine (SM.out _ _ _ _ _ HB.out HM.out).mono ?_
  rintro e wz ⟨rfl, hb⟩
  replace X := X.to hb
  clear hb hr
  have hr := X.r5
  go_wp2
  go_ret
  exact ⟨rfl, X.1⟩
set_option maxRecDepth 100000 in
set_option maxHeartbeats 4000000 in
theorem windows_cross_0 (fr st : Int) (l : List Int) (A : Option Addr) (c : Nat) (fr' st' : Int) (l' : List Int) (A' : Option Addr) (c' : Nat) (x y : Int) (w : World) (hs : SerSl w ⟨fr, st, l⟩ ⟨A, c⟩) (ht : SerSl w ⟨fr', st', l'⟩ ⟨A', c'⟩) (hn : l.length ≤ 200) (hn' : l'.length ≤ 200) (hv : vS ⟨fr, st, l⟩ = true) (hv2 : vS ⟨fr', st', l'⟩ = false) (hk : 0 ≤ x ∧ y < x) :
    Calls Try.prog 6 #[.agg #[.int .i64 fr, .int .i64 st, .slice A l.length c], .agg #[.int .i64 fr', .int .i64 st', .slice A' l'.length c'], .int .i64 x, .int .i64 y] w (BPost true w) := by
  have X := ((Own.start w).alloc #[.int .i64 fr, .int .i64 st, .slice A l.length c] 24).alloc #[.int .i64 fr', .int .i64 st', .slice A' l'.length c'] 24
  simp only [World.size_alloc] at X
  have HS := hide hs
  have HT := hide ht
  clear hs ht
  have NE : Hid (∀ W A5 c5, SerSl W Ser0 ⟨A5, c5⟩ → Calls Try.prog 12 #[.agg #[.int .i64 0, .int .i64 0, .slice A5 0 c5]] W (BPost true W)) := hide (fun W A5 c5 h => by
    have := none_any Ser0 ⟨A5, c5⟩ W h
    rw [show sameB Ser0 ⟨0, 0, []⟩ = true by decide] at this
    exact this)
  have WH : Hid (∀ W, SerSl W ⟨fr, st, l⟩ ⟨A, c⟩ → Calls Try.prog 27 #[.agg #[.int .i64 fr, .int .i64 st, .slice A l.length c], .int .i64 x, .int .i64 y] W (SerPost Ser0 2 W)) := hide (fun W h => window_range ⟨fr, st, l⟩ ⟨A, c⟩ x y W h hv (.inr (.inl hk)))
  have MH : Hid (∀ W, SerSl W ⟨fr, st, l⟩ ⟨A, c⟩ → SerSl W ⟨fr', st', l'⟩ ⟨A', c'⟩ → Calls Try.prog 29 #[.agg #[.int .i64 fr, .int .i64 st, .slice A l.length c], .agg #[.int .i64 fr', .int .i64 st', .slice A' l'.length c']] W (SerPost Ser0 1 W)) := hide (fun W h h' => merge_bad ⟨fr, st, l⟩ ⟨A, c⟩ ⟨fr', st', l'⟩ ⟨A', c'⟩ W h h' (.inr ⟨hv, hv2⟩))
  have RV2 := fun W h => rfvalid17_any ⟨fr', st', l'⟩ ⟨A', c'⟩ W h
  rw [hv2] at RV2
  have RVH2 : Hid (∀ W, SerSl W ⟨fr', st', l'⟩ ⟨A', c'⟩ → Calls Try.prog 16 #[.agg #[.int .i64 fr', .int .i64 st', .slice A' l'.length c']] W (BPost false W)) := hide RV2
  clear RV2
  have RV := fun W h => rfvalid17_any ⟨fr, st, l⟩ ⟨A, c⟩ W h
  rw [hv] at RV
  have RVH : Hid (∀ W, SerSl W ⟨fr, st, l⟩ ⟨A, c⟩ → Calls Try.prog 16 #[.agg #[.int .i64 fr, .int .i64 st, .slice A l.length c]] W (BPost true W)) := hide RV
  clear RV
  have k1 : decide (x < 0) = false := decide_eq_false (by omega)
  have k2 : decide (y < x) = true := decide_eq_true hk.2
  clear hk
  have hr := X.r2
  go_enter Try.func6, Try.ntmps6
  go_wp2_with fail
  refine (awake_any _).mono ?_
  rintro e wz ⟨rfl, hb⟩
  replace X := X.to hb
  clear hb hr
  have hr := X.r2
  have XB := X.alloc #[.int .i64 fr, .int .i64 st, .slice A l.length c, .int .i64 fr', .int .i64 st', .slice A' l'.length c'] 24
  go_wp2_with fail
  refine (few_two ⟨fr, st, l⟩ ⟨A, c⟩ ⟨fr', st', l'⟩ ⟨A', c'⟩ _ _ (XB.2 _ (List.mem_cons_self ..))).mono ?_
  rintro e wz ⟨rfl, hb⟩
  rw [show (longP (l.length : Int) || longP (l'.length : Int)) = false by rw [long_no hn, long_no hn']; rfl]
  replace X := (XB.to hb).tail
  clear hb hr XB
  have hr := X.r2
  go_wp2_with fail
  refine (WH.out _ (HS.out.below X.1)).mono ?_
  intro e wA hq
  obtain ⟨hb, A1, c1, rfl, hs3⟩ := hq.out
  replace X := (X.to hb).alloc #[.int .i64 0, .int .i64 0, .slice A1 0 c1] 24
  have bA : Below wA.heap.size wA (wA.alloc (.cells #[.int .i64 0, .int .i64 0, .slice A1 0 c1] 24)) := (Below.refl _ _).alloc (Nat.le_refl _) _
  have HA := hide (SerSl.below hs3 bA)
  clear hb hr hq hs3 bA
  have hr := X.r3
  go_wp2_with fail
  refine (MH.out _ (HS.out.below X.1) (HT.out.below X.1)).mono ?_
  intro e wB hq
  obtain ⟨hb, A2, c2, rfl, hs3⟩ := hq.out
  replace X := (X.to hb).alloc #[.int .i64 0, .int .i64 0, .slice A2 0 c2] 24
  have bA : Below wB.heap.size wB (wB.alloc (.cells #[.int .i64 0, .int .i64 0, .slice A2 0 c2] 24)) := (Below.refl _ _).alloc (Nat.le_refl _) _
  replace HA := hide (SerSl.below (SerSl.below HA.out hb) bA)
  have HB := hide (SerSl.below hs3 bA)
  clear hb hr hq hs3 bA
  have hr := X.r4
  go_wp2_with fail
  refine (RVH.out _ (HS.out.below X.1)).mono ?_
  rintro e wz ⟨rfl, hb⟩
  replace X := X.to hb
  replace HA := hide (HA.out.below hb)
  replace HB := hide (HB.out.below hb)
  clear hb hr
  have hr := X.r4
  go_wp2_with fail
  refine (NE.out _ _ _ HA.out).mono ?_
  rintro e wz ⟨rfl, hb⟩
  replace X := X.to hb
  replace HB := hide (HB.out.below hb)
  clear hb hr
  have hr := X.r4
  go_wp2_with fail
  refine (RVH2.out _ (HT.out.below X.1)).mono ?_
  rintro e wz ⟨rfl, hb⟩
  replace X := X.to hb
  replace HB := hide (HB.out.below hb)
  clear hb hr
  have hr := X.r4
  go_wp2_with fail
  refine (NE.out _ _ _ HB.out).mono ?_
  rintro e wz ⟨rfl, hb⟩
  replace X := X.to hb
  clear hb hr
  have hr := X.r4
  go_wp2
  go_ret
  exact ⟨rfl, X.1⟩
set_option maxRecDepth 100000 in
set_option maxHeartbeats 4000000 in
theorem windows_cross_1 (fr st : Int) (l : List Int) (A : Option Addr) (c : Nat) (fr' st' : Int) (l' : List Int) (A' : Option Addr) (c' : Nat) (x y : Int) (w : World) (hs : SerSl w ⟨fr, st, l⟩ ⟨A, c⟩) (ht : SerSl w ⟨fr', st', l'⟩ ⟨A', c'⟩) (hn : l.length ≤ 200) (hn' : l'.length ≤ 200) (hv : vS ⟨fr, st, l⟩ = true) (hv2 : vS ⟨fr', st', l'⟩ = true) (hk : 0 ≤ x ∧ y < x) :
    Calls Try.prog 6 #[.agg #[.int .i64 fr, .int .i64 st, .slice A l.length c], .agg #[.int .i64 fr', .int .i64 st', .slice A' l'.length c'], .int .i64 x, .int .i64 y] w (BPost true w) := by
  have X := ((Own.start w).alloc #[.int .i64 fr, .int .i64 st, .slice A l.length c] 24).alloc #[.int .i64 fr', .int .i64 st', .slice A' l'.length c'] 24
  simp only [World.size_alloc] at X
  have HS := hide hs
  have HT := hide ht
  clear hs ht
  have NE : Hid (∀ W A5 c5, SerSl W Ser0 ⟨A5, c5⟩ → Calls Try.prog 12 #[.agg #[.int .i64 0, .int .i64 0, .slice A5 0 c5]] W (BPost true W)) := hide (fun W A5 c5 h => by
    have := none_any Ser0 ⟨A5, c5⟩ W h
    rw [show sameB Ser0 ⟨0, 0, []⟩ = true by decide] at this
    exact this)
  have WH : Hid (∀ W, SerSl W ⟨fr, st, l⟩ ⟨A, c⟩ → Calls Try.prog 27 #[.agg #[.int .i64 fr, .int .i64 st, .slice A l.length c], .int .i64 x, .int .i64 y] W (SerPost Ser0 2 W)) := hide (fun W h => window_range ⟨fr, st, l⟩ ⟨A, c⟩ x y W h hv (.inr (.inl hk)))
  have MH : Hid (∀ W, SerSl W ⟨fr, st, l⟩ ⟨A, c⟩ → SerSl W ⟨fr', st', l'⟩ ⟨A', c'⟩ → Calls Try.prog 29 #[.agg #[.int .i64 fr, .int .i64 st, .slice A l.length c], .agg #[.int .i64 fr', .int .i64 st', .slice A' l'.length c']] W (SerPost (mgS ⟨fr, st, l⟩ ⟨fr', st', l'⟩) (mgE ⟨fr, st, l⟩ ⟨fr', st', l'⟩) W)) := hide (fun W h h' => merge_any ⟨fr, st, l⟩ ⟨A, c⟩ ⟨fr', st', l'⟩ ⟨A', c'⟩ W h h')
  have RM : Hid (∀ W, SerSl W ⟨fr, st, l⟩ ⟨A, c⟩ → SerSl W ⟨fr', st', l'⟩ ⟨A', c'⟩ → Calls Try.prog 31 #[.agg #[.int .i64 fr, .int .i64 st, .slice A l.length c], .agg #[.int .i64 fr', .int .i64 st', .slice A' l'.length c']] W (SerPost (mgS ⟨fr, st, l⟩ ⟨fr', st', l'⟩) (mgE ⟨fr, st, l⟩ ⟨fr', st', l'⟩) W)) := hide (fun W h h' => rmerge_any ⟨fr, st, l⟩ ⟨A, c⟩ ⟨fr', st', l'⟩ ⟨A', c'⟩ W h h' (vS_iff.1 hv) (vS_iff.1 hv2))
  generalize mgE ⟨fr, st, l⟩ ⟨fr', st', l'⟩ = E at *
  generalize hm : mgS ⟨fr, st, l⟩ ⟨fr', st', l'⟩ = m at *
  clear hm
  obtain ⟨F, Q, Z⟩ := m
  have SM : Hid (∀ W A4 c4 A5 c5, SerSl W ⟨F, Q, Z⟩ ⟨A4, c4⟩ → SerSl W ⟨F, Q, Z⟩ ⟨A5, c5⟩ → Calls Try.prog 15 #[.agg #[.int .i64 F, .int .i64 Q, .slice A4 Z.length c4], .agg #[.int .i64 F, .int .i64 Q, .slice A5 Z.length c5]] W (BPost true W)) := hide (fun W A4 c4 A5 c5 h h' => by
    have := same_any ⟨F, Q, Z⟩ ⟨A4, c4⟩ ⟨F, Q, Z⟩ ⟨A5, c5⟩ W h h'
    rw [show sameB ⟨F, Q, Z⟩ ⟨F, Q, Z⟩ = true from sameB_yes ⟨rfl, rfl, rfl⟩] at this
    exact this)
  have RV2 := fun W h => rfvalid17_any ⟨fr', st', l'⟩ ⟨A', c'⟩ W h
  rw [hv2] at RV2
  have RVH2 : Hid (∀ W, SerSl W ⟨fr', st', l'⟩ ⟨A', c'⟩ → Calls Try.prog 16 #[.agg #[.int .i64 fr', .int .i64 st', .slice A' l'.length c']] W (BPost true W)) := hide RV2
  clear RV2
  have RV := fun W h => rfvalid17_any ⟨fr, st, l⟩ ⟨A, c⟩ W h
  rw [hv] at RV
  have RVH : Hid (∀ W, SerSl W ⟨fr, st, l⟩ ⟨A, c⟩ → Calls Try.prog 16 #[.agg #[.int .i64 fr, .int .i64 st, .slice A l.length c]] W (BPost true W)) := hide RV
  clear RV
  have k1 : decide (x < 0) = false := decide_eq_false (by omega)
  have k2 : decide (y < x) = true := decide_eq_true hk.2
  clear hk
  have hr := X.r2
  go_enter Try.func6, Try.ntmps6
  go_wp2_with fail
  refine (awake_any _).mono ?_
  rintro e wz ⟨rfl, hb⟩
  replace X := X.to hb
  clear hb hr
  have hr := X.r2
  have XB := X.alloc #[.int .i64 fr, .int .i64 st, .slice A l.length c, .int .i64 fr', .int .i64 st', .slice A' l'.length c'] 24
  go_wp2_with fail
  refine (few_two ⟨fr, st, l⟩ ⟨A, c⟩ ⟨fr', st', l'⟩ ⟨A', c'⟩ _ _ (XB.2 _ (List.mem_cons_self ..))).mono ?_
  rintro e wz ⟨rfl, hb⟩
  rw [show (longP (l.length : Int) || longP (l'.length : Int)) = false by rw [long_no hn, long_no hn']; rfl]
  replace X := (XB.to hb).tail
  clear hb hr XB
  have hr := X.r2
  go_wp2_with fail
  refine (WH.out _ (HS.out.below X.1)).mono ?_
  intro e wA hq
  obtain ⟨hb, A1, c1, rfl, hs3⟩ := hq.out
  replace X := (X.to hb).alloc #[.int .i64 0, .int .i64 0, .slice A1 0 c1] 24
  have bA : Below wA.heap.size wA (wA.alloc (.cells #[.int .i64 0, .int .i64 0, .slice A1 0 c1] 24)) := (Below.refl _ _).alloc (Nat.le_refl _) _
  have HA := hide (SerSl.below hs3 bA)
  clear hb hr hq hs3 bA
  have hr := X.r3
  go_wp2_with fail
  refine (MH.out _ (HS.out.below X.1) (HT.out.below X.1)).mono ?_
  intro e wB hq
  obtain ⟨hb, A2, c2, rfl, hs3⟩ := hq.out
  replace X := (X.to hb).alloc #[.int .i64 F, .int .i64 Q, .slice A2 Z.length c2] 24
  have bA : Below wB.heap.size wB (wB.alloc (.cells #[.int .i64 F, .int .i64 Q, .slice A2 Z.length c2] 24)) := (Below.refl _ _).alloc (Nat.le_refl _) _
  replace HA := hide (SerSl.below (SerSl.below HA.out hb) bA)
  have HB := hide (SerSl.below hs3 bA)
  clear hb hr hq hs3 bA
  have hr := X.r4
  go_wp2_with fail
  refine (RVH.out _ (HS.out.below X.1)).mono ?_
  rintro e wz ⟨rfl, hb⟩
  replace X := X.to hb
  replace HA := hide (HA.out.below hb)
  replace HB := hide (HB.out.below hb)
  clear hb hr
  have hr := X.r4
  go_wp2_with fail
  refine (NE.out _ _ _ HA.out).mono ?_
  rintro e wz ⟨rfl, hb⟩
  replace X := X.to hb
  replace HB := hide (HB.out.below hb)
  clear hb hr
  have hr := X.r4
  go_wp2_with fail
  refine (RVH2.out _ (HT.out.below X.1)).mono ?_
  rintro e wz ⟨rfl, hb⟩
  replace X := X.to hb
  replace HB := hide (HB.out.below hb)
  clear hb hr
  have hr := X.r4
  go_wp2_with fail
  refine (RM.out _ (HS.out.below X.1) (HT.out.below X.1)).mono ?_
  intro e wM hq
  obtain ⟨hb, A6, c6, rfl, hs3⟩ := hq.out
  replace X := (X.to hb).alloc #[.int .i64 F, .int .i64 Q, .slice A6 Z.length c6] 24
  have bA : Below wM.heap.size wM (wM.alloc (.cells #[.int .i64 F, .int .i64 Q, .slice A6 Z.length c6] 24)) := (Below.refl _ _).alloc (Nat.le_refl _) _
  replace HB := hide (SerSl.below (SerSl.below HB.out hb) bA)
  have HM := hide (SerSl.below hs3 bA)
  clear hb hr hq hs3 bA
  have hr := X.r5
  go_wp2_with fail
  refine (SM.out _ _ _ _ _ HB.out HM.out).mono ?_
  rintro e wz ⟨rfl, hb⟩
  replace X := X.to hb
  clear hb hr
  have hr := X.r5
  go_wp2
  go_ret
  exact ⟨rfl, X.1⟩
set_option maxRecDepth 100000 in
set_option maxHeartbeats 4000000 in
theorem windows_over_0 (fr st : Int) (l : List Int) (A : Option Addr) (c : Nat) (fr' st' : Int) (l' : List Int) (A' : Option Addr) (c' : Nat) (x y : Int) (w : World) (hs : SerSl w ⟨fr, st, l⟩ ⟨A, c⟩) (ht : SerSl w ⟨fr', st', l'⟩ ⟨A', c'⟩) (hn : l.length ≤ 200) (hn' : l'.length ≤ 200) (hv : vS ⟨fr, st, l⟩ = true) (hv2 : vS ⟨fr', st', l'⟩ = false) (hk : 0 ≤ x ∧ x ≤ y ∧ (l.length : Int) < y) :
    Calls Try.prog 6 #[.agg #[.int .i64 fr, .int .i64 st, .slice A l.length c], .agg #[.int .i64 fr', .int .i64 st', .slice A' l'.length c'], .int .i64 x, .int .i64 y] w (BPost true w) := by
  have X := ((Own.start w).alloc #[.int .i64 fr, .int .i64 st, .slice A l.length c] 24).alloc #[.int .i64 fr', .int .i64 st', .slice A' l'.length c'] 24
  simp only [World.size_alloc] at X
  have HS := hide hs
  have HT := hide ht
  clear hs ht
  have NE : Hid (∀ W A5 c5, SerSl W Ser0 ⟨A5, c5⟩ → Calls Try.prog 12 #[.agg #[.int .i64 0, .int .i64 0, .slice A5 0 c5]] W (BPost true W)) := hide (fun W A5 c5 h => by
    have := none_any Ser0 ⟨A5, c5⟩ W h
    rw [show sameB Ser0 ⟨0, 0, []⟩ = true by decide] at this
    exact this)
  have WH : Hid (∀ W, SerSl W ⟨fr, st, l⟩ ⟨A, c⟩ → Calls Try.prog 27 #[.agg #[.int .i64 fr, .int .i64 st, .slice A l.length c], .int .i64 x, .int .i64 y] W (SerPost Ser0 2 W)) := hide (fun W h => window_range ⟨fr, st, l⟩ ⟨A, c⟩ x y W h hv (.inr (.inr hk)))
  have MH : Hid (∀ W, SerSl W ⟨fr, st, l⟩ ⟨A, c⟩ → SerSl W ⟨fr', st', l'⟩ ⟨A', c'⟩ → Calls Try.prog 29 #[.agg #[.int .i64 fr, .int .i64 st, .slice A l.length c], .agg #[.int .i64 fr', .int .i64 st', .slice A' l'.length c']] W (SerPost Ser0 1 W)) := hide (fun W h h' => merge_bad ⟨fr, st, l⟩ ⟨A, c⟩ ⟨fr', st', l'⟩ ⟨A', c'⟩ W h h' (.inr ⟨hv, hv2⟩))
  have RV2 := fun W h => rfvalid17_any ⟨fr', st', l'⟩ ⟨A', c'⟩ W h
  rw [hv2] at RV2
  have RVH2 : Hid (∀ W, SerSl W ⟨fr', st', l'⟩ ⟨A', c'⟩ → Calls Try.prog 16 #[.agg #[.int .i64 fr', .int .i64 st', .slice A' l'.length c']] W (BPost false W)) := hide RV2
  clear RV2
  have RV := fun W h => rfvalid17_any ⟨fr, st, l⟩ ⟨A, c⟩ W h
  rw [hv] at RV
  have RVH : Hid (∀ W, SerSl W ⟨fr, st, l⟩ ⟨A, c⟩ → Calls Try.prog 16 #[.agg #[.int .i64 fr, .int .i64 st, .slice A l.length c]] W (BPost true W)) := hide RV
  clear RV
  have k1 : decide (x < 0) = false := decide_eq_false (by omega)
  have k2 : decide (y < x) = false := decide_eq_false (by omega)
  have k3 : decide ((l.length : Int) < y) = true := decide_eq_true hk.2.2
  clear hk
  have hr := X.r2
  go_enter Try.func6, Try.ntmps6
  go_wp2_with fail
  refine (awake_any _).mono ?_
  rintro e wz ⟨rfl, hb⟩
  replace X := X.to hb
  clear hb hr
  have hr := X.r2
  have XB := X.alloc #[.int .i64 fr, .int .i64 st, .slice A l.length c, .int .i64 fr', .int .i64 st', .slice A' l'.length c'] 24
  go_wp2_with fail
  refine (few_two ⟨fr, st, l⟩ ⟨A, c⟩ ⟨fr', st', l'⟩ ⟨A', c'⟩ _ _ (XB.2 _ (List.mem_cons_self ..))).mono ?_
  rintro e wz ⟨rfl, hb⟩
  rw [show (longP (l.length : Int) || longP (l'.length : Int)) = false by rw [long_no hn, long_no hn']; rfl]
  replace X := (XB.to hb).tail
  clear hb hr XB
  have hr := X.r2
  go_wp2_with fail
  refine (WH.out _ (HS.out.below X.1)).mono ?_
  intro e wA hq
  obtain ⟨hb, A1, c1, rfl, hs3⟩ := hq.out
  replace X := (X.to hb).alloc #[.int .i64 0, .int .i64 0, .slice A1 0 c1] 24
  have bA : Below wA.heap.size wA (wA.alloc (.cells #[.int .i64 0, .int .i64 0, .slice A1 0 c1] 24)) := (Below.refl _ _).alloc (Nat.le_refl _) _
  have HA := hide (SerSl.below hs3 bA)
  clear hb hr hq hs3 bA
  have hr := X.r3
  go_wp2_with fail
  refine (MH.out _ (HS.out.below X.1) (HT.out.below X.1)).mono ?_
  intro e wB hq
  obtain ⟨hb, A2, c2, rfl, hs3⟩ := hq.out
  replace X := (X.to hb).alloc #[.int .i64 0, .int .i64 0, .slice A2 0 c2] 24
  have bA : Below wB.heap.size wB (wB.alloc (.cells #[.int .i64 0, .int .i64 0, .slice A2 0 c2] 24)) := (Below.refl _ _).alloc (Nat.le_refl _) _
  replace HA := hide (SerSl.below (SerSl.below HA.out hb) bA)
  have HB := hide (SerSl.below hs3 bA)
  clear hb hr hq hs3 bA
  have hr := X.r4
  go_wp2_with fail
  refine (RVH.out _ (HS.out.below X.1)).mono ?_
  rintro e wz ⟨rfl, hb⟩
  replace X := X.to hb
  replace HA := hide (HA.out.below hb)
  replace HB := hide (HB.out.below hb)
  clear hb hr
  have hr := X.r4
  go_wp2_with fail
  refine (NE.out _ _ _ HA.out).mono ?_
  rintro e wz ⟨rfl, hb⟩
  replace X := X.to hb
  replace HB := hide (HB.out.below hb)
  clear hb hr
  have hr := X.r4
  go_wp2_with fail
  refine (RVH2.out _ (HT.out.below X.1)).mono ?_
  rintro e wz ⟨rfl, hb⟩
  replace X := X.to hb
  replace HB := hide (HB.out.below hb)
  clear hb hr
  have hr := X.r4
  go_wp2_with fail
  refine (NE.out _ _ _ HB.out).mono ?_
  rintro e wz ⟨rfl, hb⟩
  replace X := X.to hb
  clear hb hr
  have hr := X.r4
  go_wp2
  go_ret
  exact ⟨rfl, X.1⟩
set_option maxRecDepth 100000 in
set_option maxHeartbeats 4000000 in
theorem windows_over_1 (fr st : Int) (l : List Int) (A : Option Addr) (c : Nat) (fr' st' : Int) (l' : List Int) (A' : Option Addr) (c' : Nat) (x y : Int) (w : World) (hs : SerSl w ⟨fr, st, l⟩ ⟨A, c⟩) (ht : SerSl w ⟨fr', st', l'⟩ ⟨A', c'⟩) (hn : l.length ≤ 200) (hn' : l'.length ≤ 200) (hv : vS ⟨fr, st, l⟩ = true) (hv2 : vS ⟨fr', st', l'⟩ = true) (hk : 0 ≤ x ∧ x ≤ y ∧ (l.length : Int) < y) :
    Calls Try.prog 6 #[.agg #[.int .i64 fr, .int .i64 st, .slice A l.length c], .agg #[.int .i64 fr', .int .i64 st', .slice A' l'.length c'], .int .i64 x, .int .i64 y] w (BPost true w) := by
  have X := ((Own.start w).alloc #[.int .i64 fr, .int .i64 st, .slice A l.length c] 24).alloc #[.int .i64 fr', .int .i64 st', .slice A' l'.length c'] 24
  simp only [World.size_alloc] at X
  have HS := hide hs
  have HT := hide ht
  clear hs ht
  have NE : Hid (∀ W A5 c5, SerSl W Ser0 ⟨A5, c5⟩ → Calls Try.prog 12 #[.agg #[.int .i64 0, .int .i64 0, .slice A5 0 c5]] W (BPost true W)) := hide (fun W A5 c5 h => by
    have := none_any Ser0 ⟨A5, c5⟩ W h
    rw [show sameB Ser0 ⟨0, 0, []⟩ = true by decide] at this
    exact this)
  have WH : Hid (∀ W, SerSl W ⟨fr, st, l⟩ ⟨A, c⟩ → Calls Try.prog 27 #[.agg #[.int .i64 fr, .int .i64 st, .slice A l.length c], .int .i64 x, .int .i64 y] W (SerPost Ser0 2 W)) := hide (fun W h => window_range ⟨fr, st, l⟩ ⟨A, c⟩ x y W h hv (.inr (.inr hk)))
  have MH : Hid (∀ W, SerSl W ⟨fr, st, l⟩ ⟨A, c⟩ → SerSl W ⟨fr', st', l'⟩ ⟨A', c'⟩ → Calls Try.prog 29 #[.agg #[.int .i64 fr, .int .i64 st, .slice A l.length c], .agg #[.int .i64 fr', .int .i64 st', .slice A' l'.length c']] W (SerPost (mgS ⟨fr, st, l⟩ ⟨fr', st', l'⟩) (mgE ⟨fr, st, l⟩ ⟨fr', st', l'⟩) W)) := hide (fun W h h' => merge_any ⟨fr, st, l⟩ ⟨A, c⟩ ⟨fr', st', l'⟩ ⟨A', c'⟩ W h h')
  have RM : Hid (∀ W, SerSl W ⟨fr, st, l⟩ ⟨A, c⟩ → SerSl W ⟨fr', st', l'⟩ ⟨A', c'⟩ → Calls Try.prog 31 #[.agg #[.int .i64 fr, .int .i64 st, .slice A l.length c], .agg #[.int .i64 fr', .int .i64 st', .slice A' l'.length c']] W (SerPost (mgS ⟨fr, st, l⟩ ⟨fr', st', l'⟩) (mgE ⟨fr, st, l⟩ ⟨fr', st', l'⟩) W)) := hide (fun W h h' => rmerge_any ⟨fr, st, l⟩ ⟨A, c⟩ ⟨fr', st', l'⟩ ⟨A', c'⟩ W h h' (vS_iff.1 hv) (vS_iff.1 hv2))
  generalize mgE ⟨fr, st, l⟩ ⟨fr', st', l'⟩ = E at *
  generalize hm : mgS ⟨fr, st, l⟩ ⟨fr', st', l'⟩ = m at *
  clear hm
  obtain ⟨F, Q, Z⟩ := m
  have SM : Hid (∀ W A4 c4 A5 c5, SerSl W ⟨F, Q, Z⟩ ⟨A4, c4⟩ → SerSl W ⟨F, Q, Z⟩ ⟨A5, c5⟩ → Calls Try.prog 15 #[.agg #[.int .i64 F, .int .i64 Q, .slice A4 Z.length c4], .agg #[.int .i64 F, .int .i64 Q, .slice A5 Z.length c5]] W (BPost true W)) := hide (fun W A4 c4 A5 c5 h h' => by
    have := same_any ⟨F, Q, Z⟩ ⟨A4, c4⟩ ⟨F, Q, Z⟩ ⟨A5, c5⟩ W h h'
    rw [show sameB ⟨F, Q, Z⟩ ⟨F, Q, Z⟩ = true from sameB_yes ⟨rfl, rfl, rfl⟩] at this
    exact this)
  have RV2 := fun W h => rfvalid17_any ⟨fr', st', l'⟩ ⟨A', c'⟩ W h
  rw [hv2] at RV2
  have RVH2 : Hid (∀ W, SerSl W ⟨fr', st', l'⟩ ⟨A', c'⟩ → Calls Try.prog 16 #[.agg #[.int .i64 fr', .int .i64 st', .slice A' l'.length c']] W (BPost true W)) := hide RV2
  clear RV2
  have RV := fun W h => rfvalid17_any ⟨fr, st, l⟩ ⟨A, c⟩ W h
  rw [hv] at RV
  have RVH : Hid (∀ W, SerSl W ⟨fr, st, l⟩ ⟨A, c⟩ → Calls Try.prog 16 #[.agg #[.int .i64 fr, .int .i64 st, .slice A l.length c]] W (BPost true W)) := hide RV
  clear RV
  have k1 : decide (x < 0) = false := decide_eq_false (by omega)
  have k2 : decide (y < x) = false := decide_eq_false (by omega)
  have k3 : decide ((l.length : Int) < y) = true := decide_eq_true hk.2.2
  clear hk
  have hr := X.r2
  go_enter Try.func6, Try.ntmps6
  go_wp2_with fail
  refine (awake_any _).mono ?_
  rintro e wz ⟨rfl, hb⟩
  replace X := X.to hb
  clear hb hr
  have hr := X.r2
  have XB := X.alloc #[.int .i64 fr, .int .i64 st, .slice A l.length c, .int .i64 fr', .int .i64 st', .slice A' l'.length c'] 24
  go_wp2_with fail
  refine (few_two ⟨fr, st, l⟩ ⟨A, c⟩ ⟨fr', st', l'⟩ ⟨A', c'⟩ _ _ (XB.2 _ (List.mem_cons_self ..))).mono ?_
  rintro e wz ⟨rfl, hb⟩
  rw [show (longP (l.length : Int) || longP (l'.length : Int)) = false by rw [long_no hn, long_no hn']; rfl]
  replace X := (XB.to hb).tail
  clear hb hr XB
  have hr := X.r2
  go_wp2_with fail
  refine (WH.out _ (HS.out.below X.1)).mono ?_
  intro e wA hq
  obtain ⟨hb, A1, c1, rfl, hs3⟩ := hq.out
  replace X := (X.to hb).alloc #[.int .i64 0, .int .i64 0, .slice A1 0 c1] 24
  have bA : Below wA.heap.size wA (wA.alloc (.cells #[.int .i64 0, .int .i64 0, .slice A1 0 c1] 24)) := (Below.refl _ _).alloc (Nat.le_refl _) _
  have HA := hide (SerSl.below hs3 bA)
  clear hb hr hq hs3 bA
  have hr := X.r3
  go_wp2_with fail
  refine (MH.out _ (HS.out.below X.1) (HT.out.below X.1)).mono ?_
  intro e wB hq
  obtain ⟨hb, A2, c2, rfl, hs3⟩ := hq.out
  replace X := (X.to hb).alloc #[.int .i64 F, .int .i64 Q, .slice A2 Z.length c2] 24
  have bA : Below wB.heap.size wB (wB.alloc (.cells #[.int .i64 F, .int .i64 Q, .slice A2 Z.length c2] 24)) := (Below.refl _ _).alloc (Nat.le_refl _) _
  replace HA := hide (SerSl.below (SerSl.below HA.out hb) bA)
  have HB := hide (SerSl.below hs3 bA)
  clear hb hr hq hs3 bA
  have hr := X.r4
  go_wp2_with fail
  refine (RVH.out _ (HS.out.below X.1)).mono ?_
  rintro e wz ⟨rfl, hb⟩
  replace X := X.to hb
  replace HA := hide (HA.out.below hb)
  replace HB := hide (HB.out.below hb)
  clear hb hr
  have hr := X.r4
  go_wp2_with fail
  refine (NE.out _ _ _ HA.out).mono ?_
  rintro e wz ⟨rfl, hb⟩
  replace X := X.to hb
  replace HB := hide (HB.out.below hb)
  clear hb hr
  have hr := X.r4
  go_wp2_with fail
  refine (RVH2.out _ (HT.out.below X.1)).mono ?_
  rintro e wz ⟨rfl, hb⟩
  replace X := X.to hb
  replace HB := hide (HB.out.below hb)
  clear hb hr
  have hr := X.r4
  go_wp2_with fail
  refine (RM.out _ (HS.out.below X.1) (HT.out.below X.1)).mono ?_
  intro e wM hq
  obtain ⟨hb, A6, c6, rfl, hs3⟩ := hq.out
  replace X := (X.to hb).alloc #[.int .i64 F, .int .i64 Q, .slice A6 Z.length c6] 24
  have bA : Below wM.heap.size wM (wM.alloc (.cells #[.int .i64 F, .int .i64 Q, .slice A6 Z.length c6] 24)) := (Below.refl _ _).alloc (Nat.le_refl _) _
  replace HB := hide (SerSl.below (SerSl.below HB.out hb) bA)
  have HM := hide (SerSl.below hs3 bA)
  clear hb hr hq hs3 bA
  have hr := X.r5
  go_wp2_with fail
  refine (SM.out _ _ _ _ _ HB.out HM.out).mono ?_
  rintro e wz ⟨rfl, hb⟩
  replace X := X.to hb
  clear hb hr
  have hr := X.r5
  go_wp2
  go_ret
  exact ⟨rfl, X.1⟩
end Go.Proofs.Ytkbocphpnmpaeaa
