/- GaugeWindows: the law's walk (printed by gen_windows.py). -/
import Derived.Test.YtkbocphpnmpaeaaGgWd1
import Derived.Deep.RegionHeld3
namespace Go.Proofs.Ytkbocphpnmpaeaa
open Go.RowKit

set_option maxRecDepth 100000 in
set_option maxHeartbeats 4000000 in
theorem windows_in_0 (fr st : Int) (l : List Int) (A : Option Addr) (c : Nat) (fr' st' : Int) (l' : List Int) (A' : Option Addr) (c' : Nat) (x y : Nat) (w : World) (hs : SerSl w ⟨fr, st, l⟩ ⟨A, c⟩) (ht : SerSl w ⟨fr', st', l'⟩ ⟨A', c'⟩) (hA : A = none → c = 0) (hn : l.length ≤ 200) (hn' : l'.length ≤ 200) (hv : vS ⟨fr, st, l⟩ = true) (hv2 : vS ⟨fr', st', l'⟩ = false) (h1 : x ≤ y) (h2 : y ≤ l.length) :
    Calls Try.prog 6 #[.agg #[.int .i64 fr, .int .i64 st, .slice A l.length c], .agg #[.int .i64 fr', .int .i64 st', .slice A' l'.length c'], .int .i64 (x : Int), .int .i64 (y : Int)] w (BPost true w) := by
  have X := ((Own.start w).alloc #[.int .i64 fr, .int .i64 st, .slice A l.length c] 24).alloc #[.int .i64 fr', .int .i64 st', .slice A' l'.length c'] 24
  simp only [World.size_alloc] at X
  have HS := hide hs
  have HT := hide ht
  clear hs ht
  have NE : Hid (∀ W A5 c5, SerSl W Ser0 ⟨A5, c5⟩ → Calls Try.prog 12 #[.agg #[.int .i64 0, .int .i64 0, .slice A5 0 c5]] W (BPost true W)) := hide (fun W A5 c5 h => by
    have := none_any Ser0 ⟨A5, c5⟩ W h
    rw [show sameB Ser0 ⟨0, 0, []⟩ = true by decide] at this
    exact this)
  have WH : Hid (∀ W, SerSl W ⟨fr, st, l⟩ ⟨A, c⟩ → Calls Try.prog 27 #[.agg #[.int .i64 fr, .int .i64 st, .slice A l.length c], .int .i64 (x : Int), .int .i64 (y : Int)] W (SerPost (winS ⟨fr, st, l⟩ x y) 0 W)) := hide (fun W h => window_in ⟨fr, st, l⟩ ⟨A, c⟩ x y W h hA hv h1 h2)
  have RW : Hid (∀ W, SerSl W ⟨fr, st, l⟩ ⟨A, c⟩ → Calls Try.prog 30 #[.agg #[.int .i64 fr, .int .i64 st, .slice A l.length c], .int .i64 (x : Int), .int .i64 (y : Int)] W (RSPost (winS ⟨fr, st, l⟩ x y) W)) := hide (fun W h => rwindow_any ⟨fr, st, l⟩ ⟨A, c⟩ x y W h hA (vS_iff.1 hv) h1 h2)
  have MH : Hid (∀ W, SerSl W ⟨fr, st, l⟩ ⟨A, c⟩ → SerSl W ⟨fr', st', l'⟩ ⟨A', c'⟩ → Calls Try.prog 29 #[.agg #[.int .i64 fr, .int .i64 st, .slice A l.length c], .agg #[.int .i64 fr', .int .i64 st', .slice A' l'.length c']] W (SerPost Ser0 1 W)) := hide (fun W h h' => merge_bad ⟨fr, st, l⟩ ⟨A, c⟩ ⟨fr', st', l'⟩ ⟨A', c'⟩ W h h' (.inr ⟨hv, hv2⟩))
  have RV2 := fun W h => rfvalid17_any ⟨fr', st', l'⟩ ⟨A', c'⟩ W h
  rw [hv2] at RV2
  have RVH2 : Hid (∀ W, SerSl W ⟨fr', st', l'⟩ ⟨A', c'⟩ → Calls Try.prog 16 #[.agg #[.int .i64 fr', .int .i64 st', .slice A' l'.length c']] W (BPost false W)) := hide RV2
  clear RV2
  have RV := fun W h => rfvalid17_any ⟨fr, st, l⟩ ⟨A, c⟩ W h
  rw [hv] at RV
  have RVH : Hid (∀ W, SerSl W ⟨fr, st, l⟩ ⟨A, c⟩ → Calls Try.prog 16 #[.agg #[.int .i64 fr, .int .i64 st, .slice A l.length c]] W (BPost true W)) := hide RV
  clear RV
  have k1 : decide ((x : Int) < 0) = false := decide_eq_false (by omega)
  have k2 : decide ((y : Int) < (x : Int)) = false := decide_eq_false (by omega)
  have k3 : decide ((l.length : Int) < (y : Int)) = false := decide_eq_false (by omega)
  have k4 : decide (y < x) = false := decide_eq_false (by omega)
  have k5 : decide (l.length < y) = false := decide_eq_false (by omega)
  generalize hwn : winS ⟨fr, st, l⟩ x y = wn at *
  clear hwn h1 h2 hA hv hv2
  obtain ⟨F1, Q1, Z1⟩ := wn
  have SW : Hid (∀ W A4 c4 A5 c5, SerSl W ⟨F1, Q1, Z1⟩ ⟨A4, c4⟩ → SerSl W ⟨F1, Q1, Z1⟩ ⟨A5, c5⟩ → Calls Try.prog 15 #[.agg #[.int .i64 F1, .int .i64 Q1, .slice A4 Z1.length c4], .agg #[.int .i64 F1, .int .i64 Q1, .slice A5 Z1.length c5]] W (BPost true W)) := hide (fun W A4 c4 A5 c5 h h' => by
    have := same_any ⟨F1, Q1, Z1⟩ ⟨A4, c4⟩ ⟨F1, Q1, Z1⟩ ⟨A5, c5⟩ W h h'
    rw [show sameB ⟨F1, Q1, Z1⟩ ⟨F1, Q1, Z1⟩ = true from sameB_yes ⟨rfl, rfl, rfl⟩] at this
    exact this)
  have hr := X.r2
  go_enter Try.func6, Try.ntmps6
  go_wp2_with fail
  refine (awake_any _).mono ?_
  rintro e wz ⟨rfl, hb⟩
  replace X := X.to hb
  clear hb hr
  have hr := X.r2
  have XB := X.alloc #[.int .i64 fr, .int .i64 st, .slice A l.length c, .int .i64 fr', .int .i64 st', .slice A' l'.length c'] 24
  go_wp2_with fail
  refine (few_two ⟨fr, st, l⟩ ⟨A, c⟩ ⟨fr', st', l'⟩ ⟨A', c'⟩ _ _ (XB.2 _ (List.mem_cons_self ..))).mono ?_
  rintro e wz ⟨rfl, hb⟩
  rw [show (longP (l.length : Int) || longP (l'.length : Int)) = false by rw [long_no hn, long_no hn']; rfl]
  replace X := (XB.to hb).tail
  clear hb hr XB
  have hr := X.r2
  go_wp2_with fail
  refine (WH.out _ (HS.out.below X.1)).mono ?_
  intro e wA hq
  obtain ⟨hb, A1, c1, rfl, hs3⟩ := hq.out
  replace X := (X.to hb).alloc #[.int .i64 F1, .int .i64 Q1, .slice A1 Z1.length c1] 24
  have bA : Below wA.heap.size wA (wA.alloc (.cells #[.int .i64 F1, .int .i64 Q1, .slice A1 Z1.length c1] 24)) := (Below.refl _ _).alloc (Nat.le_refl _) _
  have HA := hide (SerSl.below hs3 bA)
  clear hb hr hq hs3 bA
  have hr := X.r3
  go_wp2_with fail
  refine (MH.out _ (HS.out.below X.1) (HT.out.below X.1)).mono ?_
  intro e wB hq
  obtain ⟨hb, A2, c2, rfl, hs3⟩ := hq.out
  replace X := (X.to hb).alloc #[.int .i64 0, .int .i64 0, .slice A2 0 c2] 24
  have bA : Below wB.heap.size wB (wB.alloc (.cells #[.int .i64 0, .int .i64 0, .slice A2 0 c2] 24)) := (Below.refl _ _).alloc (Nat.le_refl _) _
  replace HA := hide (SerSl.below (SerSl.below HA.out hb) bA)
  have HB := hide (SerSl.below hs3 bA)
  clear hb hr hq hs3 bA
  have hr := X.r4
  go_wp2_with fail
  refine (RVH.out _ (HS.out.below X.1)).mono ?_
  rintro e wz ⟨rfl, hb⟩
  replace X := X.to hb
  replace HA := hide (HA.out.below hb)
  replace HB := hide (HB.out.below hb)
  clear hb hr
  have hr := X.r4
  clear WH MH RVH
  have HAD := hide (HA.out.below ((Below.refl _ _).drew))
  go_wp2_with fail
  go_region_held3 (fun w' => w'.cell? ⟨w.heap.size, 0, none⟩ = some (.int .i64 fr) ∧ w'.cell? ⟨w.heap.size, 1, none⟩ = some (.int .i64 st) ∧ w'.cell? ⟨w.heap.size, 2, none⟩ = some (.slice A l.length c) ∧
      w'.cell? ⟨wA.heap.size, 0, none⟩ = some (.int .i64 F1) ∧ w'.cell? ⟨wA.heap.size, 1, none⟩ = some (.int .i64 Q1) ∧ w'.cell? ⟨wA.heap.size, 2, none⟩ = some (.slice A1 Z1.length c1)) (go_keep)
    (first
      | (go_at_call 30; refine (RW.out _ (HS.out.below X.drew.1)).mono ?_; intro e w5 hq5; obtain ⟨hb5, A7, c7, rfl, hs7⟩ := hq5.out; have Y5 := hide (X.drew.to hb5); have HA5 := hide (HAD.out.below hb5); have H7 := hide hs7; clear hs7 hq5; have hr5 := Y5.out.r4)
      | (go_at_call 15; refine (SW.out _ _ _ _ _ HA5.out H7.out).mono ?_; rintro e w6 ⟨rfl, hb6⟩; have Y6 := hide (Y5.out.to hb6); have hr6 := Y6.out.r4))
  have HB6 := hide (SerSl.below (SerSl.below (HB.out.below ((Below.refl _ _).drew)) hb5) hb6)
  have XN := Y6.out
  clear X
  have X := XN
  clear HB XN hr hr5 hr6 Y5 Y6 HA HAD HA5 H7 hb5 hb6 RW SW
  have HB := HB6
  clear HB6
  have hr := X.r4
  go_wp2_with fail
  refine (RVH2.out _ (HT.out.below X.1)).mono ?_
  rintro e wz ⟨rfl, hb⟩
  replace X := X.to hb
  replace HB := hide (HB.out.below hb)
  clear hb hr
  have hr := X.r4
  go_wp2_with fail
  refine (NE.out _ _ _ HB.out).mono ?_
  rintro e wz ⟨rfl, hb⟩
  replace X := X.to hb
  clear hb hr
  have hr := X.r4
  go_wp2
  go_ret
  exact ⟨rfl, X.1⟩
set_option maxRecDepth 100000 in
set_option maxHeartbeats 4000000 in
theorem windows_in_1 (fr st : Int) (l : List Int) (A : Option Addr) (c : Nat) (fr' st' : Int) (l' : List Int) (A' : Option Addr) (c' : Nat) (x y : Nat) (w : World) (hs : SerSl w ⟨fr, st, l⟩ ⟨A, c⟩) (ht : SerSl w ⟨fr', st', l'⟩ ⟨A', c'⟩) (hA : A = none → c = 0) (hn : l.length ≤ 200) (hn' : l'.length ≤ 200) (hv : vS ⟨fr, st, l⟩ = true) (hv2 : vS ⟨fr', st', l'⟩ = true) (h1 : x ≤ y) (h2 : y ≤ l.length) :
    Calls Try.prog 6 #[.agg #[.int .i64 fr, .int .i64 st, .slice A l.length c], .agg #[.int .i64 fr', .int .i64 st', .slice A' l'.length c'], .int .i64 (x : Int), .int .i64 (y : Int)] w (BPost true w) := by
  have X := ((Own.start w).alloc #[.int .i64 fr, .int .i64 st, .slice A l.length c] 24).alloc #[.int .i64 fr', .int .i64 st', .slice A' l'.length c'] 24
  simp only [World.size_alloc] at X
  have HS := hide hs
  have HT := hide ht
  clear hs ht
  have NE : Hid (∀ W A5 c5, SerSl W Ser0 ⟨A5, c5⟩ → Calls Try.prog 12 #[.agg #[.int .i64 0, .int .i64 0, .slice A5 0 c5]] W (BPost true W)) := hide (fun W A5 c5 h => by
    have := none_any Ser0 ⟨A5, c5⟩ W h
    rw [show sameB Ser0 ⟨0, 0, []⟩ = true by decide] at this
    exact this)
  have WH : Hid (∀ W, SerSl W ⟨fr, st, l⟩ ⟨A, c⟩ → Calls Try.prog 27 #[.agg #[.int .i64 fr, .int .i64 st, .slice A l.length c], .int .i64 (x : Int), .int .i64 (y : Int)] W (SerPost (winS ⟨fr, st, l⟩ x y) 0 W)) := hide (fun W h => window_in ⟨fr, st, l⟩ ⟨A, c⟩ x y W h hA hv h1 h2)
  have RW : Hid (∀ W, SerSl W ⟨fr, st, l⟩ ⟨A, c⟩ → Calls Try.prog 30 #[.agg #[.int .i64 fr, .int .i64 st, .slice A l.length c], .int .i64 (x : Int), .int .i64 (y : Int)] W (RSPost (winS ⟨fr, st, l⟩ x y) W)) := hide (fun W h => rwindow_any ⟨fr, st, l⟩ ⟨A, c⟩ x y W h hA (vS_iff.1 hv) h1 h2)
  have MH : Hid (∀ W, SerSl W ⟨fr, st, l⟩ ⟨A, c⟩ → SerSl W ⟨fr', st', l'⟩ ⟨A', c'⟩ → Calls Try.prog 29 #[.agg #[.int .i64 fr, .int .i64 st, .slice A l.length c], .agg #[.int .i64 fr', .int .i64 st', .slice A' l'.length c']] W (SerPost (mgS ⟨fr, st, l⟩ ⟨fr', st', l'⟩) (mgE ⟨fr, st, l⟩ ⟨fr', st', l'⟩) W)) := hide (fun W h h' => merge_any ⟨fr, st, l⟩ ⟨A, c⟩ ⟨fr', st', l'⟩ ⟨A', c'⟩ W h h')
  have RM : Hid (∀ W, SerSl W ⟨fr, st, l⟩ ⟨A, c⟩ → SerSl W ⟨fr', st', l'⟩ ⟨A', c'⟩ → Calls Try.prog 31 #[.agg #[.int .i64 fr, .int .i64 st, .slice A l.length c], .agg #[.int .i64 fr', .int .i64 st', .slice A' l'.length c']] W (SerPost (mgS ⟨fr, st, l⟩ ⟨fr', st', l'⟩) (mgE ⟨fr, st, l⟩ ⟨fr', st', l'⟩) W)) := hide (fun W h h' => rmerge_any ⟨fr, st, l⟩ ⟨A, c⟩ ⟨fr', st', l'⟩ ⟨A', c'⟩ W h h' (vS_iff.1 hv) (vS_iff.1 hv2))
  generalize mgE ⟨fr, st, l⟩ ⟨fr', st', l'⟩ = E at *
  generalize hm : mgS ⟨fr, st, l⟩ ⟨fr', st', l'⟩ = m at *
  clear hm
  obtain ⟨F, Q, Z⟩ := m
  have SM : Hid (∀ W A4 c4 A5 c5, SerSl W ⟨F, Q, Z⟩ ⟨A4, c4⟩ → SerSl W ⟨F, Q, Z⟩ ⟨A5, c5⟩ → Calls Try.prog 15 #[.agg #[.int .i64 F, .int .i64 Q, .slice A4 Z.length c4], .agg #[.int .i64 F, .int .i64 Q, .slice A5 Z.length c5]] W (BPost true W)) := hide (fun W A4 c4 A5 c5 h h' => by
    have := same_any ⟨F, Q, Z⟩ ⟨A4, c4⟩ ⟨F, Q, Z⟩ ⟨A5, c5⟩ W h h'
    rw [show sameB ⟨F, Q, Z⟩ ⟨F, Q, Z⟩ = true from sameB_yes ⟨rfl, rfl, rfl⟩] at this
    exact this)
  have RV2 := fun W h => rfvalid17_any ⟨fr', st', l'⟩ ⟨A', c'⟩ W h
  rw [hv2] at RV2
  have RVH2 : Hid (∀ W, SerSl W ⟨fr', st', l'⟩ ⟨A', c'⟩ → Calls Try.prog 16 #[.agg #[.int .i64 fr', .int .i64 st', .slice A' l'.length c']] W (BPost true W)) := hide RV2
  clear RV2
  have RV := fun W h => rfvalid17_any ⟨fr, st, l⟩ ⟨A, c⟩ W h
  rw [hv] at RV
  have RVH : Hid (∀ W, SerSl W ⟨fr, st, l⟩ ⟨A, c⟩ → Calls Try.prog 16 #[.agg #[.int .i64 fr, .int .i64 st, .slice A l.length c]] W (BPost true W)) := hide RV
  clear RV
  have k1 : decide ((x : Int) < 0) = false := decide_eq_false (by omega)
  have k2 : decide ((y : Int) < (x : Int)) = false := decide_eq_false (by omega)
  have k3 : decide ((l.length : Int) < (y : Int)) = false := decide_eq_false (by omega)
  have k4 : decide (y < x) = false := decide_eq_false (by omega)
  have k5 : decide (l.length < y) = false := decide_eq_false (by omega)
  generalize hwn : winS ⟨fr, st, l⟩ x y = wn at *
  clear hwn h1 h2 hA hv hv2
  obtain ⟨F1, Q1, Z1⟩ := wn
  have SW : Hid (∀ W A4 c4 A5 c5, SerSl W ⟨F1, Q1, Z1⟩ ⟨A4, c4⟩ → SerSl W ⟨F1, Q1, Z1⟩ ⟨A5, c5⟩ → Calls Try.prog 15 #[.agg #[.int .i64 F1, .int .i64 Q1, .slice A4 Z1.length c4], .agg #[.int .i64 F1, .int .i64 Q1, .slice A5 Z1.length c5]] W (BPost true W)) := hide (fun W A4 c4 A5 c5 h h' => by
    have := same_any ⟨F1, Q1, Z1⟩ ⟨A4, c4⟩ ⟨F1, Q1, Z1⟩ ⟨A5, c5⟩ W h h'
    rw [show sameB ⟨F1, Q1, Z1⟩ ⟨F1, Q1, Z1⟩ = true from sameB_yes ⟨rfl, rfl, rfl⟩] at this
    exact this)
  have hr := X.r2
  go_enter Try.func6, Try.ntmps6
  go_wp2_with fail
  refine (awake_any _).mono ?_
  rintro e wz ⟨rfl, hb⟩
  replace X := X.to hb
  clear hb hr
  have hr := X.r2
  have XB := X.alloc #[.int .i64 fr, .int .i64 st, .slice A l.length c, .int .i64 fr', .int .i64 st', .slice A' l'.length c'] 24
  go_wp2_with fail
  refine (few_two ⟨fr, st, l⟩ ⟨A, c⟩ ⟨fr', st', l'⟩ ⟨A', c'⟩ _ _ (XB.2 _ (List.mem_cons_self ..))).mono ?_
  rintro e wz ⟨rfl, hb⟩
  rw [show (longP (l.length : Int) || longP (l'.length : Int)) = false by rw [long_no hn, long_no hn']; rfl]
  replace X := (XB.to hb).tail
  clear hb hr XB
  have hr := X.r2
  go_wp2_with fail
  refine (WH.out _ (HS.out.below X.1)).mono ?_
  intro e wA hq
  obtain ⟨hb, A1, c1, rfl, hs3⟩ := hq.out
  replace X := (X.to hb).alloc #[.int .i64 F1, .int .i64 Q1, .slice A1 Z1.length c1] 24
  have bA : Below wA.heap.size wA (wA.alloc (.cells #[.int .i64 F1, .int .i64 Q1, .slice A1 Z1.length c1] 24)) := (Below.refl _ _).alloc (Nat.le_refl _) _
  have HA := hide (SerSl.below hs3 bA)
  clear hb hr hq hs3 bA
  have hr := X.r3
  go_wp2_with fail
  refine (MH.out _ (HS.out.below X.1) (HT.out.below X.1)).mono ?_
  intro e wB hq
  obtain ⟨hb, A2, c2, rfl, hs3⟩ := hq.out
  replace X := (X.to hb).alloc #[.int .i64 F, .int .i64 Q, .slice A2 Z.length c2] 24
  have bA : Below wB.heap.size wB (wB.alloc (.cells #[.int .i64 F, .int .i64 Q, .slice A2 Z.length c2] 24)) := (Below.refl _ _).alloc (Nat.le_refl _) _
  replace HA := hide (SerSl.below (SerSl.below HA.out hb) bA)
  have HB := hide (SerSl.below hs3 bA)
  clear hb hr hq hs3 bA
  have hr := X.r4
  go_wp2_with fail
  refine (RVH.out _ (HS.out.below X.1)).mono ?_
  rintro e wz ⟨rfl, hb⟩
  replace X := X.to hb
  replace HA := hide (HA.out.below hb)
  replace HB := hide (HB.out.below hb)
  clear hb hr
  have hr := X.r4
  clear WH MH RVH
  have HAD := hide (HA.out.below ((Below.refl _ _).drew))
  go_wp2_with fail
  go_region_held3 (fun w' => w'.cell? ⟨w.heap.size, 0, none⟩ = some (.int .i64 fr) ∧ w'.cell? ⟨w.heap.size, 1, none⟩ = some (.int .i64 st) ∧ w'.cell? ⟨w.heap.size, 2, none⟩ = some (.slice A l.length c) ∧
      w'.cell? ⟨wA.heap.size, 0, none⟩ = some (.int .i64 F1) ∧ w'.cell? ⟨wA.heap.size, 1, none⟩ = some (.int .i64 Q1) ∧ w'.cell? ⟨wA.heap.size, 2, none⟩ = some (.slice A1 Z1.length c1)) (go_keep)
    (first
      | (go_at_call 30; refine (RW.out _ (HS.out.below X.drew.1)).mono ?_; intro e w5 hq5; obtain ⟨hb5, A7, c7, rfl, hs7⟩ := hq5.out; have Y5 := hide (X.drew.to hb5); have HA5 := hide (HAD.out.below hb5); have H7 := hide hs7; clear hs7 hq5; have hr5 := Y5.out.r4)
      | (go_at_call 15; refine (SW.out _ _ _ _ _ HA5.out H7.out).mono ?_; rintro e w6 ⟨rfl, hb6⟩; have Y6 := hide (Y5.out.to hb6); have hr6 := Y6.out.r4))
  have HB6 := hide (SerSl.below (SerSl.below (HB.out.below ((Below.refl _ _).drew)) hb5) hb6)
  have XN := Y6.out
  clear X
  have X := XN
  clear HB XN hr hr5 hr6 Y5 Y6 HA HAD HA5 H7 hb5 hb6 RW SW
  have HB := HB6
  clear HB6
  have hr := X.r4
  go_wp2_with fail
  refine (RVH2.out _ (HT.out.below X.1)).mono ?_
  rintro e wz ⟨rfl, hb⟩
  replace X := X.to hb
  replace HB := hide (HB.out.below hb)
  clear hb hr
  have hr := X.r4
  go_wp2_with fail
  refine (RM.out _ (HS.out.below X.1) (HT.out.below X.1)).mono ?_
  intro e wM hq
  obtain ⟨hb, A6, c6, rfl, hs3⟩ := hq.out
  replace X := (X.to hb).alloc #[.int .i64 F, .int .i64 Q, .slice A6 Z.length c6] 24
  have bA : Below wM.heap.size wM (wM.alloc (.cells #[.int .i64 F, .int .i64 Q, .slice A6 Z.length c6] 24)) := (Below.refl _ _).alloc (Nat.le_refl _) _
  replace HB := hide (SerSl.below (SerSl.below HB.out hb) bA)
  have HM := hide (SerSl.below hs3 bA)
  clear hb hr hq hs3 bA
  have hr := X.r5
  go_wp2_with fail
  refine (SM.out _ _ _ _ _ HB.out HM.out).mono ?_
  rintro e wz ⟨rfl, hb⟩
  replace X := X.to hb
  clear hb hr
  have hr := X.r5
  go_wp2
  go_ret
  exact ⟨rfl, X.1⟩
theorem windows_law (s : Ser) (a : SerA) (t : Ser) (b : SerA) (x y : Int) (w : World) (hs : SerSl w s a) (hA : a.A = none → a.c = 0) (ht : SerSl w t b) : Calls Try.prog 6 #[s.val a, t.val b, .int .i64 x, .int .i64 y] w fun e w' => e = .returned (.bool true) ∧ Below w.heap.size w w' := by
  obtain ⟨fr, st, l⟩ := s
  obtain ⟨A, c⟩ := a
  obtain ⟨fr', st', l'⟩ := t
  obtain ⟨A', c'⟩ := b
  rcases Bool.eq_false_or_eq_true (longP (l.length : Int) || longP (l'.length : Int)) with hn | hn
  · exact windows_big fr st l A c fr' st' l' A' c' x y w hs ht hn
  · obtain ⟨h1, h2⟩ := Bool.or_eq_false_iff.1 hn
    have n1 : l.length ≤ 200 := by have := of_decide_eq_false h1; omega
    have n2 : l'.length ≤ 200 := by have := of_decide_eq_false h2; omega
    rcases Bool.eq_false_or_eq_true (vS ⟨fr, st, l⟩) with hv | hv
    rotate_left
    · exact windows_bad fr st l A c fr' st' l' A' c' x y w hs ht n1 n2 hv
    by_cases hx : x < 0
    · rcases Bool.eq_false_or_eq_true (vS ⟨fr', st', l'⟩) with hv2 | hv2
      · exact windows_neg_1 fr st l A c fr' st' l' A' c' x y w hs ht n1 n2 hv hv2 hx
      · exact windows_neg_0 fr st l A c fr' st' l' A' c' x y w hs ht n1 n2 hv hv2 hx
    by_cases hy : y < x
    · rcases Bool.eq_false_or_eq_true (vS ⟨fr', st', l'⟩) with hv2 | hv2
      · exact windows_cross_1 fr st l A c fr' st' l' A' c' x y w hs ht n1 n2 hv hv2 ⟨by omega, hy⟩
      · exact windows_cross_0 fr st l A c fr' st' l' A' c' x y w hs ht n1 n2 hv hv2 ⟨by omega, hy⟩
    by_cases hz : (l.length : Int) < y
    · rcases Bool.eq_false_or_eq_true (vS ⟨fr', st', l'⟩) with hv2 | hv2
      · exact windows_over_1 fr st l A c fr' st' l' A' c' x y w hs ht n1 n2 hv hv2 ⟨by omega, by omega, hz⟩
      · exact windows_over_0 fr st l A c fr' st' l' A' c' x y w hs ht n1 n2 hv hv2 ⟨by omega, by omega, hz⟩
    obtain ⟨xn, rfl⟩ : ∃ n : Nat, x = (n : Int) := ⟨x.toNat, by omega⟩
    obtain ⟨yn, rfl⟩ : ∃ n : Nat, y = (n : Int) := ⟨y.toNat, by omega⟩
    rcases Bool.eq_false_or_eq_true (vS ⟨fr', st', l'⟩) with hv2 | hv2
    · exact windows_in_1 fr st l A c fr' st' l' A' c' xn yn w hs ht hA n1 n2 hv hv2 (by omega) (by omega)
    · exact windows_in_0 fr st l A c fr' st' l' A' c' xn yn w hs ht hA n1 n2 hv hv2 (by omega) (by omega)
end Go.Proofs.Ytkbocphpnmpaeaa
