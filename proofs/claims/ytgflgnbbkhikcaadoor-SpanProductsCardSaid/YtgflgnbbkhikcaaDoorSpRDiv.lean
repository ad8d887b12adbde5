/- The reference's Div on valid spans: it returns what the program's does; nothing that was there is turned. -/
import Derived.Test.YtgflgnbbkhikcaaDoorSpRef3
import Derived.Test.YtgflgnbbkhikcaaDoorSpMul
namespace Go.Proofs.YtgflgnbbkhikcaaDoor
open Go.RowKit

theorem tr_div {x d : Int} (h1 : -72057594037927936 ≤ x) (h2 : x ≤ 72057594037927936) (hd : d ≠ 0) : (Tr.mk x 1 d).er = 0 ∧ (Tr.mk x 1 d).lo = dn x d ∧ (Tr.mk x 1 d).hi = up x d := by
  have b1 := dn_bd2 hd h1 h2
  have b2 := up_bd2 hd h1 h2
  have e1 : i64B (dn x d) = true := i64B_iff.2 (by omega)
  have e2 : i64B (up x d) = true := i64B_iff.2 (by omega)
  simp [Tr.er, Tr.lo, Tr.hi, scE, scLo, scHi, hd, e1, e2]
theorem div_val {a b : Sp} (ha : vB a = true) (hb : vB b = true) (h : hasB b 0 = false) : divF a b = resE (min (min (min (dn a.lo b.lo) (dn a.lo b.hi)) (dn a.hi b.lo)) (dn a.hi b.hi)) (max (max (max (up a.lo b.lo) (up a.lo b.hi)) (up a.hi b.lo)) (up a.hi b.hi)) ∧ divV a b = resS (min (min (min (dn a.lo b.lo) (dn a.lo b.hi)) (dn a.hi b.lo)) (dn a.hi b.hi)) (max (max (max (up a.lo b.lo) (up a.lo b.hi)) (up a.hi b.lo)) (up a.hi b.hi)) := by
  obtain ⟨h1, h2, h3⟩ := vB_iff.1 ha
  obtain ⟨k1, k2, k3⟩ := vB_iff.1 hb
  have h0 : ¬ (b.lo ≤ 0 ∧ 0 ≤ b.hi) := by
    intro h'
    simp [hasB, h'] at h
  have n1 : b.lo ≠ 0 := by omega
  have n2 : b.hi ≠ 0 := by omega
  have t0 := tr_div (x := a.lo) (d := b.lo) (by omega) (by omega) n1
  have t1 := tr_div (x := a.lo) (d := b.hi) (by omega) (by omega) n2
  have t2 := tr_div (x := a.hi) (d := b.lo) (by omega) (by omega) n1
  have t3 := tr_div (x := a.hi) (d := b.hi) (by omega) (by omega) n2
  rw [(div_some h0).1, (div_some h0).2, (s4_yes ⟨t0.1, t1.1, t2.1, t3.1⟩).1, (s4_yes ⟨t0.1, t1.1, t2.1, t3.1⟩).2]
  unfold lo4 hi4
  rw [t0.2.1, t1.2.1, t2.2.1, t3.2.1, t0.2.2, t1.2.2, t2.2.2, t3.2.2]
  exact ⟨rfl, rfl⟩
theorem quiet_eq {P : Program} {f : FuncId} {args : Array Value} {w : World} {n : Nat} {v : Value} (h : Calls P f args (w.drewN n) fun e w' => e = .returned v ∧ w.drewN n = w') : Calls P f args (w.drewN n) fun e w'' => e = .returned v ∧ ∃ m, w'' = w.drewN m :=
  h.mono fun _ _ ⟨he, hm⟩ => ⟨he, n, hm.symm⟩
theorem quiet_add_eq {P : Program} {f : FuncId} {args : Array Value} {w : World} {a n : Nat} {v : Value} (h : Calls P f args (w.drewN (a + n)) fun e w' => e = .returned v ∧ w.drewN (a + n) = w') : Calls P f args (w.drewN (a + n)) fun e w'' => e = .returned v ∧ ∃ m, w'' = w.drewN (a + m) :=
  h.mono fun _ _ ⟨he, hm⟩ => ⟨he, n, hm.symm⟩
theorem Own.drewN {w W : World} {L : List (Nat × TypeId × Array Value)} (h : Own w W L) (n : Nat) : Own w (W.drewN n) L := ⟨below_dn h.1 n, fun x hx => (h.2 x hx).drewN n⟩
def AccD (a b : Sp) (K lo hi : Int) : Prop :=
  (K = 1 ∧ lo = dn a.lo b.lo ∧ hi = up a.lo b.lo) ∨ (K = 2 ∧ lo = min (dn a.lo b.lo) (dn a.lo b.hi) ∧ hi = max (up a.lo b.lo) (up a.lo b.hi)) ∨ (K = 3 ∧ lo = min (min (dn a.lo b.lo) (dn a.lo b.hi)) (dn a.hi b.lo) ∧ hi = max (max (up a.lo b.lo) (up a.lo b.hi)) (up a.hi b.lo)) ∨ (K = 4 ∧ lo = min (min (min (dn a.lo b.lo) (dn a.lo b.hi)) (dn a.hi b.lo)) (dn a.hi b.hi) ∧ hi = max (max (max (up a.lo b.lo) (up a.lo b.hi)) (up a.hi b.lo)) (up a.hi b.hi))
set_option maxRecDepth 100000 in
set_option maxHeartbeats 8000000 in
theorem rdiv_any (a b : Sp) (w : World) (ha : vB a = true) (hb : vB b = true) : Calls Tryd.prog 20 #[a.val, b.val] w (RetSE (divV a b) (divF a b) w) := by
  obtain ⟨h1, h2, h3⟩ := vB_iff.1 ha
  obtain ⟨k1, k2, k3⟩ := vB_iff.1 hb
  rcases Bool.eq_false_or_eq_true (hasB b 0) with h0 | h0
  · have Z : b.lo ≤ 0 ∧ 0 ≤ b.hi := by simpa [hasB] using h0
    have H := hide (div_zero (a := a) Z)
    have A1 := has_any b 0
    have X := (((Own.start w).alloc #[.int .i64 a.lo, .int .i64 a.hi] 23).alloc #[.int .i64 b.lo, .int .i64 b.hi] 23).alloc #[.int .i64 0, .int .i64 0] 23
    simp only [World.size_alloc] at X
    rw [h0] at A1
    clear ha hb h0 Z
    go_enter Tryd.func20, Tryd.ntmps20
    go_wp2_with fail
    refine (A1 _).mono ?_
    rintro e w1 ⟨rfl, hb⟩
    replace X := X.to hb
    clear hb
    have hr := X.r3
    go_wp2
    exact bodyPost_ret (v := .tuple #[Sp.zero.val, .int .i64 16]) (by simp [results, Tryd.results20, hr, Sp.zero, go_sem]) rfl (RetSE.mk (by have HX := X.1; have hz := HX.size; go_grown) H.out.2 H.out.1)
  have Z : ¬ (b.lo ≤ 0 ∧ 0 ≤ b.hi) := by
    intro h'
    simp [hasB, h'] at h0
  have H := hide (div_val ha hb h0)
  have n1 : b.lo ≠ 0 := by omega
  have n2 : b.hi ≠ 0 := by omega
  have C0 := fun w => rdown_any a.lo b.lo w n1 (by omega) (by omega) (by omega) (by omega)
  have V0 := fun w => rup_any a.lo b.lo w n1 (by omega) (by omega) (by omega) (by omega)
  have L0 := dn_le_up (n := a.lo) n1
  have B0 := dn_bd2 n1 (show -72057594037927936 ≤ a.lo by omega) (show a.lo ≤ 72057594037927936 by omega)
  have T0 := up_bd2 n1 (show -72057594037927936 ≤ a.lo by omega) (show a.lo ≤ 72057594037927936 by omega)
  have C1 := fun w => rdown_any a.lo b.hi w n2 (by omega) (by omega) (by omega) (by omega)
  have V1 := fun w => rup_any a.lo b.hi w n2 (by omega) (by omega) (by omega) (by omega)
  have L1 := dn_le_up (n := a.lo) n2
  have B1 := dn_bd2 n2 (show -72057594037927936 ≤ a.lo by omega) (show a.lo ≤ 72057594037927936 by omega)
  have T1 := up_bd2 n2 (show -72057594037927936 ≤ a.lo by omega) (show a.lo ≤ 72057594037927936 by omega)
  have C2 := fun w => rdown_any a.hi b.lo w n1 (by omega) (by omega) (by omega) (by omega)
  have V2 := fun w => rup_any a.hi b.lo w n1 (by omega) (by omega) (by omega) (by omega)
  have L2 := dn_le_up (n := a.hi) n1
  have B2 := dn_bd2 n1 (show -72057594037927936 ≤ a.hi by omega) (show a.hi ≤ 72057594037927936 by omega)
  have T2 := up_bd2 n1 (show -72057594037927936 ≤ a.hi by omega) (show a.hi ≤ 72057594037927936 by omega)
  have C3 := fun w => rdown_any a.hi b.hi w n2 (by omega) (by omega) (by omega) (by omega)
  have V3 := fun w => rup_any a.hi b.hi w n2 (by omega) (by omega) (by omega) (by omega)
  have L3 := dn_le_up (n := a.hi) n2
  have B3 := dn_bd2 n2 (show -72057594037927936 ≤ a.hi by omega) (show a.hi ≤ 72057594037927936 by omega)
  have T3 := up_bd2 n2 (show -72057594037927936 ≤ a.hi by omega) (show a.hi ≤ 72057594037927936 by omega)
  have A1 := has_any b 0
  rw [h0] at A1
  have X := (((Own.start w).alloc #[.int .i64 a.lo, .int .i64 a.hi] 23).alloc #[.int .i64 b.lo, .int .i64 b.hi] 23).alloc #[.int .i64 0, .int .i64 0] 23
  simp only [World.size_alloc] at X
  clear ha hb h0 Z n1 n2
  go_enter Tryd.func20, Tryd.ntmps20
  go_wp2_with fail
  refine (A1 _).mono ?_
  rintro e w1 ⟨rfl, hb⟩
  have hr3 := (X.to hb).r3
  replace X := ((X.to hb).alloc #[.int .i64 a.lo, .int .i64 a.lo, .int .i64 a.hi, .int .i64 a.hi] 3).alloc #[.int .i64 b.lo, .int .i64 b.hi, .int .i64 b.lo, .int .i64 b.hi] 3
  clear hb
  simp only [World.size_alloc] at X
  have hr := X.r5
  go_wp2_with fail
  go_quiet ((first | (go_at_call 50; exact quiet_eq (C0 _)) | (go_at_call 51; exact quiet_eq (V0 _))))

  replace X := X.drewN nq
  have hne := X.tail.r1.2.2
  generalize w1.heap.size = ne at *
  clear hr hr3
  generalize ((w1.alloc (.cells #[.int .i64 a.lo, .int .i64 a.lo, .int .i64 a.hi, .int .i64 a.hi] 3)).alloc (.cells #[.int .i64 b.lo, .int .i64 b.hi, .int .i64 b.lo, .int .i64 b.hi] 3)).drewN nq = W at *
  go_wp2
  go_loopw [8, 9, 10] (fun v8 v9 v10 wr => ∃ K lo hi : Int, v10 = .int .i64 K ∧ v8 = .int .i64 lo ∧ v9 = .int .i64 hi ∧ Hid (AccD a b K lo hi) ∧
      Own w wr [(ne + 1, 3, #[.int .i64 b.lo, .int .i64 b.hi, .int .i64 b.lo, .int .i64 b.hi]), (ne, 3, #[.int .i64 a.lo, .int .i64 a.lo, .int .i64 a.hi, .int .i64 a.hi]), (w.heap.size + 1 + 1, 23, #[.int .i64 0, .int .i64 0]), (w.heap.size + 1, 23, #[.int .i64 b.lo, .int .i64 b.hi]), (w.heap.size, 23, #[.int .i64 a.lo, .int .i64 a.hi])]) (fun _ _ v10 _ => (4 - intOf v10).toNat)
  case atStart => exact ⟨1, _, _, rfl, rfl, rfl, hide (.inl ⟨rfl, rfl, rfl⟩), X⟩
  case round =>
    clear X hne
    obtain ⟨K, lo, hi, rfl, rfl, rfl, hacc, X⟩ := hrel
    rcases hacc.out with ⟨rfl, hlo, hhi⟩ | ⟨rfl, hlo, hhi⟩ | ⟨rfl, hlo, hhi⟩ | ⟨rfl, hlo, hhi⟩
    · have bl : -72057594037927936 ≤ lo ∧ lo ≤ 72057594037927936 := by rw [hlo]; omega
      have bh : -72057594037927936 ≤ hi ∧ hi ≤ 72057594037927936 := by rw [hhi]; omega
      have HLO := hide hlo
      have HHI := hide hhi
      clear hlo hhi hacc
      rcases Int.lt_or_le (dn a.lo b.hi) lo with m1 | m1 <;> rcases Int.lt_or_le hi (up a.lo b.hi) with m2 | m2
      · have hr := X.r5
        go_wp2_with fail
        go_quiet ((first | (go_at_call 50; first | exact quiet_eq (C1 _) | exact quiet_add_eq (C1 _)) | (go_at_call 51; first | exact quiet_eq (V1 _) | exact quiet_add_eq (V1 _))))
        replace X := X.drewN nq
        clear hr
        generalize World.drewN _ nq = W at *
        have hr := X.r5
        go_wp2_with fail
        go_quiet ((first | (go_at_call 50; first | exact quiet_eq (C1 _) | exact quiet_add_eq (C1 _)) | (go_at_call 51; first | exact quiet_eq (V1 _) | exact quiet_add_eq (V1 _))))
        replace X := X.drewN nq
        clear hr
        generalize World.drewN _ nq = W at *
        have hr := X.r5
        go_wp2_with fail
        go_quiet ((first | (go_at_call 50; first | exact quiet_eq (C1 _) | exact quiet_add_eq (C1 _)) | (go_at_call 51; first | exact quiet_eq (V1 _) | exact quiet_add_eq (V1 _))))
        replace X := X.drewN nq
        clear hr
        generalize World.drewN _ nq = W at *
        have hr := X.r5
        go_wp2_with fail
        go_quiet ((first | (go_at_call 50; first | exact quiet_eq (C1 _) | exact quiet_add_eq (C1 _)) | (go_at_call 51; first | exact quiet_eq (V1 _) | exact quiet_add_eq (V1 _))))
        replace X := X.drewN nq
        clear hr
        generalize World.drewN _ nq = W at *
        go_wp2
        go_roundw
        case measure => simp [intOf]
        case rel => exact ⟨2, (dn a.lo b.hi), (up a.lo b.hi), rfl, rfl, rfl, hide (.inr (.inl ⟨rfl, by rw [← HLO.out]; omega, by rw [← HHI.out]; omega⟩)), X⟩
      · have hr := X.r5
        go_wp2_with fail
        go_quiet ((first | (go_at_call 50; first | exact quiet_eq (C1 _) | exact quiet_add_eq (C1 _)) | (go_at_call 51; first | exact quiet_eq (V1 _) | exact quiet_add_eq (V1 _))))
        replace X := X.drewN nq
        clear hr
        generalize World.drewN _ nq = W at *
        have hr := X.r5
        go_wp2_with fail
        go_quiet ((first | (go_at_call 50; first | exact quiet_eq (C1 _) | exact quiet_add_eq (C1 _)) | (go_at_call 51; first | exact quiet_eq (V1 _) | exact quiet_add_eq (V1 _))))
        replace X := X.drewN nq
        clear hr
        generalize World.drewN _ nq = W at *
        have hr := X.r5
        go_wp2_with fail
        go_quiet ((first | (go_at_call 50; first | exact quiet_eq (C1 _) | exact quiet_add_eq (C1 _)) | (go_at_call 51; first | exact quiet_eq (V1 _) | exact quiet_add_eq (V1 _))))
        replace X := X.drewN nq
        clear hr
        generalize World.drewN _ nq = W at *
        go_wp2
        go_roundw
        case measure => simp [intOf]
        case rel => exact ⟨2, (dn a.lo b.hi), hi, rfl, rfl, rfl, hide (.inr (.inl ⟨rfl, by rw [← HLO.out]; omega, by rw [← HHI.out]; omega⟩)), X⟩
      · have hr := X.r5
        go_wp2_with fail
        go_quiet ((first | (go_at_call 50; first | exact quiet_eq (C1 _) | exact quiet_add_eq (C1 _)) | (go_at_call 51; first | exact quiet_eq (V1 _) | exact quiet_add_eq (V1 _))))
        replace X := X.drewN nq
        clear hr
        generalize World.drewN _ nq = W at *
        have hr := X.r5
        go_wp2_with fail
        go_quiet ((first | (go_at_call 50; first | exact quiet_eq (C1 _) | exact quiet_add_eq (C1 _)) | (go_at_call 51; first | exact quiet_eq (V1 _) | exact quiet_add_eq (V1 _))))
        replace X := X.drewN nq
        clear hr
        generalize World.drewN _ nq = W at *
        have hr := X.r5
        go_wp2_with fail
        go_quiet ((first | (go_at_call 50; first | exact quiet_eq (C1 _) | exact quiet_add_eq (C1 _)) | (go_at_call 51; first | exact quiet_eq (V1 _) | exact quiet_add_eq (V1 _))))
        replace X := X.drewN nq
        clear hr
        generalize World.drewN _ nq = W at *
        go_wp2
        go_roundw
        case measure => simp [intOf]
        case rel => exact ⟨2, lo, (up a.lo b.hi), rfl, rfl, rfl, hide (.inr (.inl ⟨rfl, by rw [← HLO.out]; omega, by rw [← HHI.out]; omega⟩)), X⟩
      · have hr := X.r5
        go_wp2_with fail
        go_quiet ((first | (go_at_call 50; first | exact quiet_eq (C1 _) | exact quiet_add_eq (C1 _)) | (go_at_call 51; first | exact quiet_eq (V1 _) | exact quiet_add_eq (V1 _))))
        replace X := X.drewN nq
        clear hr
        generalize World.drewN _ nq = W at *
        have hr := X.r5
        go_wp2_with fail
        go_quiet ((first | (go_at_call 50; first | exact quiet_eq (C1 _) | exact quiet_add_eq (C1 _)) | (go_at_call 51; first | exact quiet_eq (V1 _) | exact quiet_add_eq (V1 _))))
        replace X := X.drewN nq
        clear hr
        generalize World.drewN _ nq = W at *
        go_wp2
        go_roundw
        case measure => simp [intOf]
        case rel => exact ⟨2, lo, hi, rfl, rfl, rfl, hide (.inr (.inl ⟨rfl, by rw [← HLO.out]; omega, by rw [← HHI.out]; omega⟩)), X⟩
    · have bl : -72057594037927936 ≤ lo ∧ lo ≤ 72057594037927936 := by rw [hlo]; omega
      have bh : -72057594037927936 ≤ hi ∧ hi ≤ 72057594037927936 := by rw [hhi]; omega
      have HLO := hide hlo
      have HHI := hide hhi
      clear hlo hhi hacc
      rcases Int.lt_or_le (dn a.hi b.lo) lo with m1 | m1 <;> rcases Int.lt_or_le hi (up a.hi b.lo) with m2 | m2
      · have hr := X.r5
        go_wp2_with fail
        go_quiet ((first | (go_at_call 50; first | exact quiet_eq (C2 _) | exact quiet_add_eq (C2 _)) | (go_at_call 51; first | exact quiet_eq (V2 _) | exact quiet_add_eq (V2 _))))
        replace X := X.drewN nq
        clear hr
        generalize World.drewN _ nq = W at *
        have hr := X.r5
        go_wp2_with fail
        go_quiet ((first | (go_at_call 50; first | exact quiet_eq (C2 _) | exact quiet_add_eq (C2 _)) | (go_at_call 51; first | exact quiet_eq (V2 _) | exact quiet_add_eq (V2 _))))
        replace X := X.drewN nq
        clear hr
        generalize World.drewN _ nq = W at *
        have hr := X.r5
        go_wp2_with fail
        go_quiet ((first | (go_at_call 50; first | exact quiet_eq (C2 _) | exact quiet_add_eq (C2 _)) | (go_at_call 51; first | exact quiet_eq (V2 _) | exact quiet_add_eq (V2 _))))
        replace X := X.drewN nq
        clear hr
        generalize World.drewN _ nq = W at *
        have hr := X.r5
        go_wp2_with fail
        go_quiet ((first | (go_at_call 50; first | exact quiet_eq (C2 _) | exact quiet_add_eq (C2 _)) | (go_at_call 51; first | exact quiet_eq (V2 _) | exact quiet_add_eq (V2 _))))
        replace X := X.drewN nq
        clear hr
        generalize World.drewN _ nq = W at *
        go_wp2
        go_roundw
        case measure => simp [intOf]
        case rel => exact ⟨3, (dn a.hi b.lo), (up a.hi b.lo), rfl, rfl, rfl, hide (.inr (.inr (.inl ⟨rfl, by rw [← HLO.out]; omega, by rw [← HHI.out]; omega⟩))), X⟩
      · have hr := X.r5
        go_wp2_with fail
        go_quiet ((first | (go_at_call 50; first | exact quiet_eq (C2 _) | exact quiet_add_eq (C2 _)) | (go_at_call 51; first | exact quiet_eq (V2 _) | exact quiet_add_eq (V2 _))))
        replace X := X.drewN nq
        clear hr
        generalize World.drewN _ nq = W at *
        have hr := X.r5
        go_wp2_with fail
        go_quiet ((first | (go_at_call 50; first | exact quiet_eq (C2 _) | exact quiet_add_eq (C2 _)) | (go_at_call 51; first | exact quiet_eq (V2 _) | exact quiet_add_eq (V2 _))))
        replace X := X.drewN nq
        clear hr
        generalize World.drewN _ nq = W at *
        have hr := X.r5
        go_wp2_with fail
        go_quiet ((first | (go_at_call 50; first | exact quiet_eq (C2 _) | exact quiet_add_eq (C2 _)) | (go_at_call 51; first | exact quiet_eq (V2 _) | exact quiet_add_eq (V2 _))))
        replace X := X.drewN nq
        clear hr
        generalize World.drewN _ nq = W at *
        go_wp2
        go_roundw
        case measure => simp [intOf]
        case rel => exact ⟨3, (dn a.hi b.lo), hi, rfl, rfl, rfl, hide (.inr (.inr (.inl ⟨rfl, by rw [← HLO.out]; omega, by rw [← HHI.out]; omega⟩))), X⟩
      · have hr := X.r5
        go_wp2_with fail
        go_quiet ((first | (go_at_call 50; first | exact quiet_eq (C2 _) | exact quiet_add_eq (C2 _)) | (go_at_call 51; first | exact quiet_eq (V2 _) | exact quiet_add_eq (V2 _))))
        replace X := X.drewN nq
        clear hr
        generalize World.drewN _ nq = W at *
        have hr := X.r5
        go_wp2_with fail
        go_quiet ((first | (go_at_call 50; first | exact quiet_eq (C2 _) | exact quiet_add_eq (C2 _)) | (go_at_call 51; first | exact quiet_eq (V2 _) | exact quiet_add_eq (V2 _))))
        replace X := X.drewN nq
        clear hr
        generalize World.drewN _ nq = W at *
        have hr := X.r5
        go_wp2_with fail
        go_quiet ((first | (go_at_call 50; first | exact quiet_eq (C2 _) | exact quiet_add_eq (C2 _)) | (go_at_call 51; first | exact quiet_eq (V2 _) | exact quiet_add_eq (V2 _))))
        replace X := X.drewN nq
        clear hr
        generalize World.drewN _ nq = W at *
        go_wp2
        go_roundw
        case measure => simp [intOf]
        case rel => exact ⟨3, lo, (up a.hi b.lo), rfl, rfl, rfl, hide (.inr (.inr (.inl ⟨rfl, by rw [← HLO.out]; omega, by rw [← HHI.out]; omega⟩))), X⟩
      · have hr := X.r5
        go_wp2_with fail
        go_quiet ((first | (go_at_call 50; first | exact quiet_eq (C2 _) | exact quiet_add_eq (C2 _)) | (go_at_call 51; first | exact quiet_eq (V2 _) | exact quiet_add_eq (V2 _))))
        replace X := X.drewN nq
        clear hr
        generalize World.drewN _ nq = W at *
        have hr := X.r5
        go_wp2_with fail
        go_quiet ((first | (go_at_call 50; first | exact quiet_eq (C2 _) | exact quiet_add_eq (C2 _)) | (go_at_call 51; first | exact quiet_eq (V2 _) | exact quiet_add_eq (V2 _))))
        replace X := X.drewN nq
        clear hr
        generalize World.drewN _ nq = W at *
        go_wp2
        go_roundw
        case measure => simp [intOf]
        case rel => exact ⟨3, lo, hi, rfl, rfl, rfl, hide (.inr (.inr (.inl ⟨rfl, by rw [← HLO.out]; omega, by rw [← HHI.out]; omega⟩))), X⟩
    · have bl : -72057594037927936 ≤ lo ∧ lo ≤ 72057594037927936 := by rw [hlo]; omega
      have bh : -72057594037927936 ≤ hi ∧ hi ≤ 72057594037927936 := by rw [hhi]; omega
      have HLO := hide hlo
      have HHI := hide hhi
      clear hlo hhi hacc
      rcases Int.lt_or_le (dn a.hi b.hi) lo with m1 | m1 <;> rcases Int.lt_or_le hi (up a.hi b.hi) with m2 | m2
      · have hr := X.r5
        go_wp2_with fail
        go_quiet ((first | (go_at_call 50; first | exact quiet_eq (C3 _) | exact quiet_add_eq (C3 _)) | (go_at_call 51; first | exact quiet_eq (V3 _) | exact quiet_add_eq (V3 _))))
        replace X := X.drewN nq
        clear hr
        generalize World.drewN _ nq = W at *
        have hr := X.r5
        go_wp2_with fail
        go_quiet ((first | (go_at_call 50; first | exact quiet_eq (C3 _) | exact quiet_add_eq (C3 _)) | (go_at_call 51; first | exact quiet_eq (V3 _) | exact quiet_add_eq (V3 _))))
        replace X := X.drewN nq
        clear hr
        generalize World.drewN _ nq = W at *
        have hr := X.r5
        go_wp2_with fail
        go_quiet ((first | (go_at_call 50; first | exact quiet_eq (C3 _) | exact quiet_add_eq (C3 _)) | (go_at_call 51; first | exact quiet_eq (V3 _) | exact quiet_add_eq (V3 _))))
        replace X := X.drewN nq
        clear hr
        generalize World.drewN _ nq = W at *
        have hr := X.r5
        go_wp2_with fail
        go_quiet ((first | (go_at_call 50; first | exact quiet_eq (C3 _) | exact quiet_add_eq (C3 _)) | (go_at_call 51; first | exact quiet_eq (V3 _) | exact quiet_add_eq (V3 _))))
        replace X := X.drewN nq
        clear hr
        generalize World.drewN _ nq = W at *
        go_wp2
        go_roundw
        case measure => simp [intOf]
        case rel => exact ⟨4, (dn a.hi b.hi), (up a.hi b.hi), rfl, rfl, rfl, hide (.inr (.inr (.inr (⟨rfl, by rw [← HLO.out]; omega, by rw [← HHI.out]; omega⟩)))), X⟩
      · have hr := X.r5
        go_wp2_with fail
        go_quiet ((first | (go_at_call 50; first | exact quiet_eq (C3 _) | exact quiet_add_eq (C3 _)) | (go_at_call 51; first | exact quiet_eq (V3 _) | exact quiet_add_eq (V3 _))))
        replace X := X.drewN nq
        clear hr
        generalize World.drewN _ nq = W at *
        have hr := X.r5
        go_wp2_with fail
        go_quiet ((first | (go_at_call 50; first | exact quiet_eq (C3 _) | exact quiet_add_eq (C3 _)) | (go_at_call 51; first | exact quiet_eq (V3 _) | exact quiet_add_eq (V3 _))))
        replace X := X.drewN nq
        clear hr
        generalize World.drewN _ nq = W at *
        have hr := X.r5
        go_wp2_with fail
        go_quiet ((first | (go_at_call 50; first | exact quiet_eq (C3 _) | exact quiet_add_eq (C3 _)) | (go_at_call 51; first | exact quiet_eq (V3 _) | exact quiet_add_eq (V3 _))))
        replace X := X.drewN nq
        clear hr
        generalize World.drewN _ nq = W at *
        go_wp2
        go_roundw
        case measure => simp [intOf]
        case rel => exact ⟨4, (dn a.hi b.hi), hi, rfl, rfl, rfl, hide (.inr (.inr (.inr (⟨rfl, by rw [← HLO.out]; omega, by rw [← HHI.out]; omega⟩)))), X⟩
      · have hr := X.r5
        go_wp2_with fail
        go_quiet ((first | (go_at_call 50; first | exact quiet_eq (C3 _) | exact quiet_add_eq (C3 _)) | (go_at_call 51; first | exact quiet_eq (V3 _) | exact quiet_add_eq (V3 _))))
        replace X := X.drewN nq
        clear hr
        generalize World.drewN _ nq = W at *
        have hr := X.r5
        go_wp2_with fail
        go_quiet ((first | (go_at_call 50; first | exact quiet_eq (C3 _) | exact quiet_add_eq (C3 _)) | (go_at_call 51; first | exact quiet_eq (V3 _) | exact quiet_add_eq (V3 _))))
        replace X := X.drewN nq
        clear hr
        generalize World.drewN _ nq = W at *
        have hr := X.r5
        go_wp2_with fail
        go_quiet ((first | (go_at_call 50; first | exact quiet_eq (C3 _) | exact quiet_add_eq (C3 _)) | (go_at_call 51; first | exact quiet_eq (V3 _) | exact quiet_add_eq (V3 _))))
        replace X := X.drewN nq
        clear hr
        generalize World.drewN _ nq = W at *
        go_wp2
        go_roundw
        case measure => simp [intOf]
        case rel => exact ⟨4, lo, (up a.hi b.hi), rfl, rfl, rfl, hide (.inr (.inr (.inr (⟨rfl, by rw [← HLO.out]; omega, by rw [← HHI.out]; omega⟩)))), X⟩
      · have hr := X.r5
        go_wp2_with fail
        go_quiet ((first | (go_at_call 50; first | exact quiet_eq (C3 _) | exact quiet_add_eq (C3 _)) | (go_at_call 51; first | exact quiet_eq (V3 _) | exact quiet_add_eq (V3 _))))
        replace X := X.drewN nq
        clear hr
        generalize World.drewN _ nq = W at *
        have hr := X.r5
        go_wp2_with fail
        go_quiet ((first | (go_at_call 50; first | exact quiet_eq (C3 _) | exact quiet_add_eq (C3 _)) | (go_at_call 51; first | exact quiet_eq (V3 _) | exact quiet_add_eq (V3 _))))
        replace X := X.drewN nq
        clear hr
        generalize World.drewN _ nq = W at *
        go_wp2
        go_roundw
        case measure => simp [intOf]
        case rel => exact ⟨4, lo, hi, rfl, rfl, rfl, hide (.inr (.inr (.inr (⟨rfl, by rw [← HLO.out]; omega, by rw [← HHI.out]; omega⟩)))), X⟩
    · have HY : Hid (divF a b = resE lo hi ∧ divV a b = resS lo hi) := hide (by rw [hlo, hhi]; exact H.out)
      have hle : lo ≤ hi := by rw [hlo, hhi]; omega
      clear hlo hhi hacc
      have hr := X.r5
      go_wp2_with fail
      refine (rfits_any _ _ _ hle).mono ?_
      rintro e w2 ⟨rfl, hb⟩
      replace X := X.to hb
      clear hb hr
      have hr := X.r5
      go_wp2
      exact bodyPost_ret (v := .tuple #[(resS lo hi).val, .int .i64 (resE lo hi)]) (by simp [results, Tryd.results20, hr, go_sem]) rfl (RetSE.mk (by have HX := X.1; have hz := HX.size; go_grown) HY.out.2 HY.out.1)
end Go.Proofs.YtgflgnbbkhikcaaDoor
