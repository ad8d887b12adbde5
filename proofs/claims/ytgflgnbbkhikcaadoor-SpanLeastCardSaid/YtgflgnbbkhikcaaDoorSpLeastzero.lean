/- SpanLeast: a way of the walk. -/
import Derived.Test.YtgflgnbbkhikcaaDoorSpLeastP
import Derived.Deep.DeepCutAuto
namespace Go.Proofs.YtgflgnbbkhikcaaDoor
open Go.RowKit

set_option maxRecDepth 100000 in
set_option maxHeartbeats 16000000 in
theorem least_zero (a b : Sp) (w : World) (g0 : a.lo ≤ a.hi) (g1 : b.lo ≤ b.hi) (g2 : -268435456 ≤ a.lo) (g3 : a.hi ≤ 268435456) (g4 : -268435456 ≤ b.lo) (g5 : b.hi ≤ 268435456) (z : hasB b 0 = true) :
    Calls Tryd.prog 6 #[a.val, b.val] w fun e w' => e = .returned (.bool true) ∧ Below w.heap.size w w' := by
  have X := ((Own.start w).alloc #[.int .i64 a.lo, .int .i64 a.hi] 23).alloc #[.int .i64 b.lo, .int .i64 b.hi] 23
  simp only [World.size_alloc] at X
  have ha : vB a = true := vB_iff.2 (by omega)
  have hb' : vB b = true := vB_iff.2 (by omega)
  have AS := add_small (a := a) (b := b) (B := 268435456) (by omega) g2 g0 g3 g4 g1 g5
  have MS := m_small g2 g0 g3 g4 g1 g5
  have A3 := fun w => calls_se (add_any a b w) ((op2_yes ha hb' 0 _).2.trans AS.1.2) ((op2_yes ha hb' _ Sp.zero).1.trans AS.1.1)
  have A4 := fun w => calls_se (sub_any a b w) ((op2_yes ha hb' 0 _).2.trans AS.2.2) ((op2_yes ha hb' _ Sp.zero).1.trans AS.2.1)
  have A5 := fun w => calls_se (mul_any a b w) (t := ⟨m4 a b, M4 a b⟩) (er' := 0) ((op2_yes ha hb' 0 _).2.trans MS.2) ((op2_yes ha hb' _ Sp.zero).1.trans MS.1)
  have SH := hide (some_hit a b)
  have A8 := Root_any a
  have A8n := fun (r : a.lo < 0) w => calls_se (Root_any a w) (t := ⟨0, 0⟩) (er' := 2) (roo_neg ha r).2 (roo_neg ha r).1
  have A8p := fun (r : 0 ≤ a.lo) w => calls_se (Root_any a w) (roo_yes ha r).2 (roo_yes ha r).1
  clear A8
  replace A8n := hide A8n
  replace A8p := hide A8p
  have MB0 := mul_bdB (x := a.lo) (y := b.lo) (A := 268435456) (B := 268435456) (by omega) (by omega) (by omega) (by omega) (by omega)
  have MI0 : -72057594037927936 ≤ a.lo * b.lo ∧ a.lo * b.lo ≤ 72057594037927936 := by omega
  have PB0 := hide MI0
  clear MB0
  have WR0 := hide (IntWalk.i64_in (a.lo * b.lo) (by omega))
  clear MI0
  have MB1 := mul_bdB (x := a.lo) (y := b.hi) (A := 268435456) (B := 268435456) (by omega) (by omega) (by omega) (by omega) (by omega)
  have MI1 : -72057594037927936 ≤ a.lo * b.hi ∧ a.lo * b.hi ≤ 72057594037927936 := by omega
  have PB1 := hide MI1
  clear MB1
  have WR1 := hide (IntWalk.i64_in (a.lo * b.hi) (by omega))
  clear MI1
  have MB2 := mul_bdB (x := a.hi) (y := b.lo) (A := 268435456) (B := 268435456) (by omega) (by omega) (by omega) (by omega) (by omega)
  have MI2 : -72057594037927936 ≤ a.hi * b.lo ∧ a.hi * b.lo ≤ 72057594037927936 := by omega
  have PB2 := hide MI2
  clear MB2
  have WR2 := hide (IntWalk.i64_in (a.hi * b.lo) (by omega))
  clear MI2
  have MB3 := mul_bdB (x := a.hi) (y := b.hi) (A := 268435456) (B := 268435456) (by omega) (by omega) (by omega) (by omega) (by omega)
  have MI3 : -72057594037927936 ≤ a.hi * b.hi ∧ a.hi * b.hi ≤ 72057594037927936 := by omega
  have PB3 := hide MI3
  clear MB3
  have WR3 := hide (IntWalk.i64_in (a.hi * b.hi) (by omega))
  clear MI3
  have A7 := fun w => calls_se (div_any a b w) (t := ⟨0, 0⟩) (er' := 16) ((op2_yes ha hb' 0 _).2.trans (div_zero (hasB_iff.1 z)).2) ((op2_yes ha hb' _ Sp.zero).1.trans (div_zero (hasB_iff.1 z)).1)
  clear z
  clear AS MS ha hb'
  generalize m4 a b = ml at *
  generalize M4 a b = mh at *
  go_enter Tryd.func6, Tryd.ntmps6
  have hr := X.r2
  go_wp2_with fail
  refine (awake_any _).mono ?_
  rintro e w0 ⟨rfl, hb⟩
  replace X := X.to hb
  clear hb hr
  have hr := X.r2
  go_wp2_with fail
  refine (A3 _).mono ?_
  rintro e w1 ⟨rfl, hb⟩
  replace X := (X.to hb).alloc #[.int .i64 (a.lo + b.lo), .int .i64 (a.hi + b.hi)] 23
  clear hb hr
  have hr := X.r3
  go_wp2_with fail
  refine (A4 _).mono ?_
  rintro e w2 ⟨rfl, hb⟩
  replace X := (X.to hb).alloc #[.int .i64 (a.lo - b.hi), .int .i64 (a.hi - b.lo)] 23
  clear hb hr
  have hr := X.r4
  go_wp2_with fail
  refine (A5 _).mono ?_
  rintro e w3 ⟨rfl, hb⟩
  replace X := (X.to hb).alloc #[.int .i64 ml, .int .i64 mh] 23
  clear hb hr
  have hr := X.r5
  go_wp2_with fail
  refine (A7 _).mono ?_
  rintro e w4 ⟨rfl, hb⟩
  replace X := (X.to hb).alloc #[.int .i64 0, .int .i64 0] 23
  clear hb hr
  have hr := X.r6
  clear A3 A4 A5 A7
  replace X := X.alloc #[.int .i64 a.lo, .int .i64 a.hi] 3
  simp only [World.size_alloc] at X
  go_wp2
  generalize w1.heap.size = bs at *
  generalize w2.heap.size = bd at *
  generalize w3.heap.size = bp at *
  generalize w4.heap.size = bq at *
  clear hr
  go_loopw [11, 12, 15, 16, 159] (fun v11 v12 v15 v16 v159 wr => ∃ (I : Int) (K : Nat), v159 = .int .i64 I ∧ Hid ((I = 0 ∧ K = 0) ∨ (I = 1 ∧ K = 2) ∨ (I = 2 ∧ K = 4)) ∧ (∃ lw hw be ab : Bool, v11 = .bool lw ∧ v12 = .bool hw ∧ v15 = .bool be ∧ v16 = .bool ab ∧ be = true ∧ ab = true ∧ Hid (Sofar (Hit a b ml) K lw) ∧ Hid (Sofar (Hit a b mh) K hw)) ∧
      Own w wr [(bq + 1, 3, #[.int .i64 a.lo, .int .i64 a.hi]), (bq, 23, #[.int .i64 0, .int .i64 0]), (bp, 23, #[.int .i64 ml, .int .i64 mh]), (bd, 23, #[.int .i64 (a.lo - b.hi), .int .i64 (a.hi - b.lo)]), (bs, 23, #[.int .i64 (a.lo + b.lo), .int .i64 (a.hi + b.hi)]), (w.heap.size + 1, 23, #[.int .i64 b.lo, .int .i64 b.hi]), (w.heap.size, 23, #[.int .i64 a.lo, .int .i64 a.hi])]) (fun _ _ _ _ v _ => (2 - intOf v).toNat)
  case atStart => exact ⟨0, 0, rfl, hide (.inl ⟨rfl, rfl⟩), ⟨false, false, true, true, rfl, rfl, rfl, rfl, rfl, rfl, hide (Sofar.zero _ _), hide (Sofar.zero _ _)⟩, X⟩
  case round =>
    clear X
    obtain ⟨wo, rfl⟩ : ∃ wo : World, wo = wr := ⟨_, rfl⟩
    obtain ⟨I, K, rfl, hIK, ⟨lw, hw, be, ab, rfl, rfl, rfl, rfl, rfl, rfl, S1, S2⟩, X⟩ := hrel
    rcases hIK.out with ⟨rfl, rfl⟩ | ⟨rfl, rfl⟩ | ⟨rfl, rfl⟩
    · clear hIK
      have hr := X.r7
      replace X := X.alloc #[.int .i64 b.lo, .int .i64 b.hi] 3
      go_wp2
      have hsz := X.tail.1.size
      generalize wo.heap.size = is at *
      clear hr
      go_loopw [11, 12, 15, 16, 169] (fun v11 v12 v15 v16 v169 wi => ∃ (J : Int) (K : Nat), v169 = .int .i64 J ∧ Hid ((J = 0 ∧ K = 0) ∨ (J = 1 ∧ K = 1) ∨ (J = 2 ∧ K = 2)) ∧ (∃ lw hw be ab : Bool, v11 = .bool lw ∧ v12 = .bool hw ∧ v15 = .bool be ∧ v16 = .bool ab ∧ be = true ∧ ab = true ∧ Hid (Sofar (Hit a b ml) K lw) ∧ Hid (Sofar (Hit a b mh) K hw)) ∧
          Own w wi [(is, 3, #[.int .i64 b.lo, .int .i64 b.hi]), (bq + 1, 3, #[.int .i64 a.lo, .int .i64 a.hi]), (bq, 23, #[.int .i64 0, .int .i64 0]), (bp, 23, #[.int .i64 ml, .int .i64 mh]), (bd, 23, #[.int .i64 (a.lo - b.hi), .int .i64 (a.hi - b.lo)]), (bs, 23, #[.int .i64 (a.lo + b.lo), .int .i64 (a.hi + b.hi)]), (w.heap.size + 1, 23, #[.int .i64 b.lo, .int .i64 b.hi]), (w.heap.size, 23, #[.int .i64 a.lo, .int .i64 a.hi])]) (fun _ _ _ _ v _ => (2 - intOf v).toNat)
      case atStart => exact ⟨0, 0, rfl, hide (.inl ⟨rfl, rfl⟩), ⟨_, _, _, _, rfl, rfl, rfl, rfl, rfl, rfl, S1, S2⟩, X⟩
      case round =>
        clear X S1 S2
        obtain ⟨J, K, rfl, hJK, ⟨lw, hw, be, ab, rfl, rfl, rfl, rfl, rfl, rfl, S1, S2⟩, X⟩ := hrel
        rcases hJK.out with ⟨rfl, rfl⟩ | ⟨rfl, rfl⟩ | ⟨rfl, rfl⟩
        · clear hJK
          have hr := X.r8
          have wr1 := WR0.out
          obtain ⟨mb, mc⟩ := PB0.out
          go_wp2_with fail
          go_cut [11, 12] (fun v11 v12 wx => ∃ lw' hw' : Bool, v11 = .bool lw' ∧ v12 = .bool hw' ∧ Hid (Sofar (Hit a b ml) 1 lw') ∧ Hid (Sofar (Hit a b mh) 1 hw') ∧ Own w wx [(is, 3, #[.int .i64 b.lo, .int .i64 b.hi]), (bq + 1, 3, #[.int .i64 a.lo, .int .i64 a.hi]), (bq, 23, #[.int .i64 0, .int .i64 0]), (bp, 23, #[.int .i64 ml, .int .i64 mh]), (bd, 23, #[.int .i64 (a.lo - b.hi), .int .i64 (a.hi - b.lo)]), (bs, 23, #[.int .i64 (a.lo + b.lo), .int .i64 (a.hi + b.hi)]), (w.heap.size + 1, 23, #[.int .i64 b.lo, .int .i64 b.hi]), (w.heap.size, 23, #[.int .i64 a.lo, .int .i64 a.hi])])
          case first =>
            have O1 : lw = true ∨ (lw = false ∧ a.lo * b.lo = ml) ∨ (lw = false ∧ ¬ a.lo * b.lo = ml) := by cases lw <;> by_cases c : a.lo * b.lo = ml <;> simp [c]
            have O2 : hw = true ∨ (hw = false ∧ a.lo * b.lo = mh) ∨ (hw = false ∧ ¬ a.lo * b.lo = mh) := by cases hw <;> by_cases c : a.lo * b.lo = mh <;> simp [c]
            rcases O1 with rfl | ⟨rfl, e1⟩ | ⟨rfl, e1⟩ <;> rcases O2 with rfl | ⟨rfl, e2⟩ | ⟨rfl, e2⟩
            · as_aux_lemma =>
              go_quiet (fail)
              replace X := X.drewN nq
              go_wp2
              go_meet
              exact ⟨_, _, rfl, rfl, hide (Sofar.yes _ _), hide (Sofar.yes _ _), X⟩
            · as_aux_lemma =>
              have f2 : (a.lo * b.lo == mh) = true := by simp [e2]
              have q2 := hide e2
              clear e2
              go_quiet (fail)
              replace X := X.drewN nq
              go_wp2
              go_meet
              exact ⟨_, _, rfl, rfl, hide (Sofar.yes _ _), hide (Sofar.yes _ _), X⟩
            · as_aux_lemma =>
              have f2 : (a.lo * b.lo == mh) = false := by simp [e2]
              have q2 := hide e2
              clear e2
              go_quiet (fail)
              replace X := X.drewN nq
              go_wp2
              go_meet
              exact ⟨_, _, rfl, rfl, hide (Sofar.yes _ _), hide (S2.out.no q2.out), X⟩
            · as_aux_lemma =>
              have f1 : (a.lo * b.lo == ml) = true := by simp [e1]
              have q1 := hide e1
              clear e1
              go_quiet (fail)
              replace X := X.drewN nq
              go_wp2
              go_meet
              exact ⟨_, _, rfl, rfl, hide (Sofar.yes _ _), hide (Sofar.yes _ _), X⟩
            · as_aux_lemma =>
              have f1 : (a.lo * b.lo == ml) = true := by simp [e1]
              have q1 := hide e1
              clear e1
              have f2 : (a.lo * b.lo == mh) = true := by simp [e2]
              have q2 := hide e2
              clear e2
              go_quiet (fail)
              replace X := X.drewN nq
              go_wp2
              go_meet
              exact ⟨_, _, rfl, rfl, hide (Sofar.yes _ _), hide (Sofar.yes _ _), X⟩
            · as_aux_lemma =>
              have f1 : (a.lo * b.lo == ml) = true := by simp [e1]
              have q1 := hide e1
              clear e1
              have f2 : (a.lo * b.lo == mh) = false := by simp [e2]
              have q2 := hide e2
              clear e2
              go_quiet (fail)
              replace X := X.drewN nq
              go_wp2
              go_meet
              exact ⟨_, _, rfl, rfl, hide (Sofar.yes _ _), hide (S2.out.no q2.out), X⟩
            · as_aux_lemma =>
              have f1 : (a.lo * b.lo == ml) = false := by simp [e1]
              have q1 := hide e1
              clear e1
              go_quiet (fail)
              replace X := X.drewN nq
              go_wp2
              go_meet
              exact ⟨_, _, rfl, rfl, hide (S1.out.no q1.out), hide (Sofar.yes _ _), X⟩
            · as_aux_lemma =>
              have f1 : (a.lo * b.lo == ml) = false := by simp [e1]
              have q1 := hide e1
              clear e1
              have f2 : (a.lo * b.lo == mh) = true := by simp [e2]
              have q2 := hide e2
              clear e2
              go_quiet (fail)
              replace X := X.drewN nq
              go_wp2
              go_meet
              exact ⟨_, _, rfl, rfl, hide (S1.out.no q1.out), hide (Sofar.yes _ _), X⟩
            · as_aux_lemma =>
              have f1 : (a.lo * b.lo == ml) = false := by simp [e1]
              have q1 := hide e1
              clear e1
              have f2 : (a.lo * b.lo == mh) = false := by simp [e2]
              have q2 := hide e2
              clear e2
              go_quiet (fail)
              replace X := X.drewN nq
              go_wp2
              go_meet
              exact ⟨_, _, rfl, rfl, hide (S1.out.no q1.out), hide (S2.out.no q2.out), X⟩
          case rest =>
            clear X S1 S2 hr
            obtain ⟨lw', hw', rfl, rfl, S1, S2, X⟩ := hcut
            have hr := X.r8
            clear wr1 mb mc
            go_wp2
            go_roundw
            case rel => exact ⟨1, 1, rfl, hide (by omega), ⟨_, _, _, _, rfl, rfl, rfl, rfl, rfl, rfl, S1, S2⟩, X⟩
            case measure => simp [intOf]
        · clear hJK
          have hr := X.r8
          have wr1 := WR1.out
          obtain ⟨mb, mc⟩ := PB1.out
          go_wp2_with fail
          go_cut [11, 12] (fun v11 v12 wx => ∃ lw' hw' : Bool, v11 = .bool lw' ∧ v12 = .bool hw' ∧ Hid (Sofar (Hit a b ml) 2 lw') ∧ Hid (Sofar (Hit a b mh) 2 hw') ∧ Own w wx [(is, 3, #[.int .i64 b.lo, .int .i64 b.hi]), (bq + 1, 3, #[.int .i64 a.lo, .int .i64 a.hi]), (bq, 23, #[.int .i64 0, .int .i64 0]), (bp, 23, #[.int .i64 ml, .int .i64 mh]), (bd, 23, #[.int .i64 (a.lo - b.hi), .int .i64 (a.hi - b.lo)]), (bs, 23, #[.int .i64 (a.lo + b.lo), .int .i64 (a.hi + b.hi)]), (w.heap.size + 1, 23, #[.int .i64 b.lo, .int .i64 b.hi]), (w.heap.size, 23, #[.int .i64 a.lo, .int .i64 a.hi])])
          case first =>
            have O1 : lw = true ∨ (lw = false ∧ a.lo * b.hi = ml) ∨ (lw = false ∧ ¬ a.lo * b.hi = ml) := by cases lw <;> by_cases c : a.lo * b.hi = ml <;> simp [c]
            have O2 : hw = true ∨ (hw = false ∧ a.lo * b.hi = mh) ∨ (hw = false ∧ ¬ a.lo * b.hi = mh) := by cases hw <;> by_cases c : a.lo * b.hi = mh <;> simp [c]
            rcases O1 with rfl | ⟨rfl, e1⟩ | ⟨rfl, e1⟩ <;> rcases O2 with rfl | ⟨rfl, e2⟩ | ⟨rfl, e2⟩
            · as_aux_lemma =>
              go_quiet (fail)
              replace X := X.drewN nq
              go_wp2
              go_meet
              exact ⟨_, _, rfl, rfl, hide (Sofar.yes _ _), hide (Sofar.yes _ _), X⟩
            · as_aux_lemma =>
              have f2 : (a.lo * b.hi == mh) = true := by simp [e2]
              have q2 := hide e2
              clear e2
              go_quiet (fail)
              replace X := X.drewN nq
              go_wp2
              go_meet
              exact ⟨_, _, rfl, rfl, hide (Sofar.yes _ _), hide (Sofar.yes _ _), X⟩
            · as_aux_lemma =>
              have f2 : (a.lo * b.hi == mh) = false := by simp [e2]
              have q2 := hide e2
              clear e2
              go_quiet (fail)
              replace X := X.drewN nq
              go_wp2
              go_meet
              exact ⟨_, _, rfl, rfl, hide (Sofar.yes _ _), hide (S2.out.no q2.out), X⟩
            · as_aux_lemma =>
              have f1 : (a.lo * b.hi == ml) = true := by simp [e1]
              have q1 := hide e1
              clear e1
              go_quiet (fail)
              replace X := X.drewN nq
              go_wp2
              go_meet
              exact ⟨_, _, rfl, rfl, hide (Sofar.yes _ _), hide (Sofar.yes _ _), X⟩
            · as_aux_lemma =>
              have f1 : (a.lo * b.hi == ml) = true := by simp [e1]
              have q1 := hide e1
              clear e1
              have f2 : (a.lo * b.hi == mh) = true := by simp [e2]
              have q2 := hide e2
              clear e2
              go_quiet (fail)
              replace X := X.drewN nq
              go_wp2
              go_meet
              exact ⟨_, _, rfl, rfl, hide (Sofar.yes _ _), hide (Sofar.yes _ _), X⟩
            · as_aux_lemma =>
              have f1 : (a.lo * b.hi == ml) = true := by simp [e1]
              have q1 := hide e1
              clear e1
              have f2 : (a.lo * b.hi == mh) = false := by simp [e2]
              have q2 := hide e2
              clear e2
              go_quiet (fail)
              replace X := X.drewN nq
              go_wp2
              go_meet
              exact ⟨_, _, rfl, rfl, hide (Sofar.yes _ _), hide (S2.out.no q2.out), X⟩
            · as_aux_lemma =>
              have f1 : (a.lo * b.hi == ml) = false := by simp [e1]
              have q1 := hide e1
              clear e1
              go_quiet (fail)
              replace X := X.drewN nq
              go_wp2
              go_meet
              exact ⟨_, _, rfl, rfl, hide (S1.out.no q1.out), hide (Sofar.yes _ _), X⟩
            · as_aux_lemma =>
              have f1 : (a.lo * b.hi == ml) = false := by simp [e1]
              have q1 := hide e1
              clear e1
              have f2 : (a.lo * b.hi == mh) = true := by simp [e2]
              have q2 := hide e2
              clear e2
              go_quiet (fail)
              replace X := X.drewN nq
              go_wp2
              go_meet
              exact ⟨_, _, rfl, rfl, hide (S1.out.no q1.out), hide (Sofar.yes _ _), X⟩
            · as_aux_lemma =>
              have f1 : (a.lo * b.hi == ml) = false := by simp [e1]
              have q1 := hide e1
              clear e1
              have f2 : (a.lo * b.hi == mh) = false := by simp [e2]
              have q2 := hide e2
              clear e2
              go_quiet (fail)
              replace X := X.drewN nq
              go_wp2
              go_meet
              exact ⟨_, _, rfl, rfl, hide (S1.out.no q1.out), hide (S2.out.no q2.out), X⟩
          case rest =>
            clear X S1 S2 hr
            obtain ⟨lw', hw', rfl, rfl, S1, S2, X⟩ := hcut
            have hr := X.r8
            clear wr1 mb mc
            go_wp2
            go_roundw
            case rel => exact ⟨2, 2, rfl, hide (by omega), ⟨_, _, _, _, rfl, rfl, rfl, rfl, rfl, rfl, S1, S2⟩, X⟩
            case measure => simp [intOf]
        · clear hJK
          have hr := X.r8
          go_wp2
          go_roundw
          case rel => exact ⟨1, 2, rfl, hide (by omega), ⟨_, _, _, _, rfl, rfl, rfl, rfl, rfl, rfl, S1, S2⟩, X.tail⟩
          case measure => simp [intOf]
    · clear hIK
      have hr := X.r7
      replace X := X.alloc #[.int .i64 b.lo, .int .i64 b.hi] 3
      go_wp2
      have hsz := X.tail.1.size
      generalize wo.heap.size = is at *
      clear hr
      go_loopw [11, 12, 15, 16, 169] (fun v11 v12 v15 v16 v169 wi => ∃ (J : Int) (K : Nat), v169 = .int .i64 J ∧ Hid ((J = 0 ∧ K = 2) ∨ (J = 1 ∧ K = 3) ∨ (J = 2 ∧ K = 4)) ∧ (∃ lw hw be ab : Bool, v11 = .bool lw ∧ v12 = .bool hw ∧ v15 = .bool be ∧ v16 = .bool ab ∧ be = true ∧ ab = true ∧ Hid (Sofar (Hit a b ml) K lw) ∧ Hid (Sofar (Hit a b mh) K hw)) ∧
          Own w wi [(is, 3, #[.int .i64 b.lo, .int .i64 b.hi]), (bq + 1, 3, #[.int .i64 a.lo, .int .i64 a.hi]), (bq, 23, #[.int .i64 0, .int .i64 0]), (bp, 23, #[.int .i64 ml, .int .i64 mh]), (bd, 23, #[.int .i64 (a.lo - b.hi), .int .i64 (a.hi - b.lo)]), (bs, 23, #[.int .i64 (a.lo + b.lo), .int .i64 (a.hi + b.hi)]), (w.heap.size + 1, 23, #[.int .i64 b.lo, .int .i64 b.hi]), (w.heap.size, 23, #[.int .i64 a.lo, .int .i64 a.hi])]) (fun _ _ _ _ v _ => (2 - intOf v).toNat)
      case atStart => exact ⟨0, 2, rfl, hide (.inl ⟨rfl, rfl⟩), ⟨_, _, _, _, rfl, rfl, rfl, rfl, rfl, rfl, S1, S2⟩, X⟩
      case round =>
        clear X S1 S2
        obtain ⟨J, K, rfl, hJK, ⟨lw, hw, be, ab, rfl, rfl, rfl, rfl, rfl, rfl, S1, S2⟩, X⟩ := hrel
        rcases hJK.out with ⟨rfl, rfl⟩ | ⟨rfl, rfl⟩ | ⟨rfl, rfl⟩
        · clear hJK
          have hr := X.r8
          have wr1 := WR2.out
          obtain ⟨mb, mc⟩ := PB2.out
          go_wp2_with fail
          go_cut [11, 12] (fun v11 v12 wx => ∃ lw' hw' : Bool, v11 = .bool lw' ∧ v12 = .bool hw' ∧ Hid (Sofar (Hit a b ml) 3 lw') ∧ Hid (Sofar (Hit a b mh) 3 hw') ∧ Own w wx [(is, 3, #[.int .i64 b.lo, .int .i64 b.hi]), (bq + 1, 3, #[.int .i64 a.lo, .int .i64 a.hi]), (bq, 23, #[.int .i64 0, .int .i64 0]), (bp, 23, #[.int .i64 ml, .int .i64 mh]), (bd, 23, #[.int .i64 (a.lo - b.hi), .int .i64 (a.hi - b.lo)]), (bs, 23, #[.int .i64 (a.lo + b.lo), .int .i64 (a.hi + b.hi)]), (w.heap.size + 1, 23, #[.int .i64 b.lo, .int .i64 b.hi]), (w.heap.size, 23, #[.int .i64 a.lo, .int .i64 a.hi])])
          case first =>
            have O1 : lw = true ∨ (lw = false ∧ a.hi * b.lo = ml) ∨ (lw = false ∧ ¬ a.hi * b.lo = ml) := by cases lw <;> by_cases c : a.hi * b.lo = ml <;> simp [c]
            have O2 : hw = true ∨ (hw = false ∧ a.hi * b.lo = mh) ∨ (hw = false ∧ ¬ a.hi * b.lo = mh) := by cases hw <;> by_cases c : a.hi * b.lo = mh <;> simp [c]
            rcases O1 with rfl | ⟨rfl, e1⟩ | ⟨rfl, e1⟩ <;> rcases O2 with rfl | ⟨rfl, e2⟩ | ⟨rfl, e2⟩
            · as_aux_lemma =>
              go_quiet (fail)
              replace X := X.drewN nq
              go_wp2
              go_meet
              exact ⟨_, _, rfl, rfl, hide (Sofar.yes _ _), hide (Sofar.yes _ _), X⟩
            · as_aux_lemma =>
              have f2 : (a.hi * b.lo == mh) = true := by simp [e2]
              have q2 := hide e2
              clear e2
              go_quiet (fail)
              replace X := X.drewN nq
              go_wp2
              go_meet
              exact ⟨_, _, rfl, rfl, hide (Sofar.yes _ _), hide (Sofar.yes _ _), X⟩
            · as_aux_lemma =>
              have f2 : (a.hi * b.lo == mh) = false := by simp [e2]
              have q2 := hide e2
              clear e2
              go_quiet (fail)
              replace X := X.drewN nq
              go_wp2
              go_meet
              exact ⟨_, _, rfl, rfl, hide (Sofar.yes _ _), hide (S2.out.no q2.out), X⟩
            · as_aux_lemma =>
              have f1 : (a.hi * b.lo == ml) = true := by simp [e1]
              have q1 := hide e1
              clear e1
              go_quiet (fail)
              replace X := X.drewN nq
              go_wp2
              go_meet
              exact ⟨_, _, rfl, rfl, hide (Sofar.yes _ _), hide (Sofar.yes _ _), X⟩
            · as_aux_lemma =>
              have f1 : (a.hi * b.lo == ml) = true := by simp [e1]
              have q1 := hide e1
              clear e1
              have f2 : (a.hi * b.lo == mh) = true := by simp [e2]
              have q2 := hide e2
              clear e2
              go_quiet (fail)
              replace X := X.drewN nq
              go_wp2
              go_meet
              exact ⟨_, _, rfl, rfl, hide (Sofar.yes _ _), hide (Sofar.yes _ _), X⟩
            · as_aux_lemma =>
              have f1 : (a.hi * b.lo == ml) = true := by simp [e1]
              have q1 := hide e1
              clear e1
              have f2 : (a.hi * b.lo == mh) = false := by simp [e2]
              have q2 := hide e2
              clear e2
              go_quiet (fail)
              replace X := X.drewN nq
              go_wp2
              go_meet
              exact ⟨_, _, rfl, rfl, hide (Sofar.yes _ _), hide (S2.out.no q2.out), X⟩
            · as_aux_lemma =>
              have f1 : (a.hi * b.lo == ml) = false := by simp [e1]
              have q1 := hide e1
              clear e1
              go_quiet (fail)
              replace X := X.drewN nq
              go_wp2
              go_meet
              exact ⟨_, _, rfl, rfl, hide (S1.out.no q1.out), hide (Sofar.yes _ _), X⟩
            · as_aux_lemma =>
              have f1 : (a.hi * b.lo == ml) = false := by simp [e1]
              have q1 := hide e1
              clear e1
              have f2 : (a.hi * b.lo == mh) = true := by simp [e2]
              have q2 := hide e2
              clear e2
              go_quiet (fail)
              replace X := X.drewN nq
              go_wp2
              go_meet
              exact ⟨_, _, rfl, rfl, hide (S1.out.no q1.out), hide (Sofar.yes _ _), X⟩
            · as_aux_lemma =>
              have f1 : (a.hi * b.lo == ml) = false := by simp [e1]
              have q1 := hide e1
              clear e1
              have f2 : (a.hi * b.lo == mh) = false := by simp [e2]
              have q2 := hide e2
              clear e2
              go_quiet (fail)
              replace X := X.drewN nq
              go_wp2
              go_meet
              exact ⟨_, _, rfl, rfl, hide (S1.out.no q1.out), hide (S2.out.no q2.out), X⟩
          case rest =>
            clear X S1 S2 hr
            obtain ⟨lw', hw', rfl, rfl, S1, S2, X⟩ := hcut
            have hr := X.r8
            clear wr1 mb mc
            go_wp2
            go_roundw
            case rel => exact ⟨1, 3, rfl, hide (by omega), ⟨_, _, _, _, rfl, rfl, rfl, rfl, rfl, rfl, S1, S2⟩, X⟩
            case measure => simp [intOf]
        · clear hJK
          have hr := X.r8
          have wr1 := WR3.out
          obtain ⟨mb, mc⟩ := PB3.out
          go_wp2_with fail
          go_cut [11, 12] (fun v11 v12 wx => ∃ lw' hw' : Bool, v11 = .bool lw' ∧ v12 = .bool hw' ∧ Hid (Sofar (Hit a b ml) 4 lw') ∧ Hid (Sofar (Hit a b mh) 4 hw') ∧ Own w wx [(is, 3, #[.int .i64 b.lo, .int .i64 b.hi]), (bq + 1, 3, #[.int .i64 a.lo, .int .i64 a.hi]), (bq, 23, #[.int .i64 0, .int .i64 0]), (bp, 23, #[.int .i64 ml, .int .i64 mh]), (bd, 23, #[.int .i64 (a.lo - b.hi), .int .i64 (a.hi - b.lo)]), (bs, 23, #[.int .i64 (a.lo + b.lo), .int .i64 (a.hi + b.hi)]), (w.heap.size + 1, 23, #[.int .i64 b.lo, .int .i64 b.hi]), (w.heap.size, 23, #[.int .i64 a.lo, .int .i64 a.hi])])
          case first =>
            have O1 : lw = true ∨ (lw = false ∧ a.hi * b.hi = ml) ∨ (lw = false ∧ ¬ a.hi * b.hi = ml) := by cases lw <;> by_cases c : a.hi * b.hi = ml <;> simp [c]
            have O2 : hw = true ∨ (hw = false ∧ a.hi * b.hi = mh) ∨ (hw = false ∧ ¬ a.hi * b.hi = mh) := by cases hw <;> by_cases c : a.hi * b.hi = mh <;> simp [c]
            rcases O1 with rfl | ⟨rfl, e1⟩ | ⟨rfl, e1⟩ <;> rcases O2 with rfl | ⟨rfl, e2⟩ | ⟨rfl, e2⟩
            · as_aux_lemma =>
              go_quiet (fail)
              replace X := X.drewN nq
              go_wp2
              go_meet
              exact ⟨_, _, rfl, rfl, hide (Sofar.yes _ _), hide (Sofar.yes _ _), X⟩
            · as_aux_lemma =>
              have f2 : (a.hi * b.hi == mh) = true := by simp [e2]
              have q2 := hide e2
              clear e2
              go_quiet (fail)
              replace X := X.drewN nq
              go_wp2
              go_meet
              exact ⟨_, _, rfl, rfl, hide (Sofar.yes _ _), hide (Sofar.yes _ _), X⟩
            · as_aux_lemma =>
              have f2 : (a.hi * b.hi == mh) = false := by simp [e2]
              have q2 := hide e2
              clear e2
              go_quiet (fail)
              replace X := X.drewN nq
              go_wp2
              go_meet
              exact ⟨_, _, rfl, rfl, hide (Sofar.yes _ _), hide (S2.out.no q2.out), X⟩
            · as_aux_lemma =>
              have f1 : (a.hi * b.hi == ml) = true := by simp [e1]
              have q1 := hide e1
              clear e1
              go_quiet (fail)
              replace X := X.drewN nq
              go_wp2
              go_meet
              exact ⟨_, _, rfl, rfl, hide (Sofar.yes _ _), hide (Sofar.yes _ _), X⟩
            · as_aux_lemma =>
              have f1 : (a.hi * b.hi == ml) = true := by simp [e1]
              have q1 := hide e1
              clear e1
              have f2 : (a.hi * b.hi == mh) = true := by simp [e2]
              have q2 := hide e2
              clear e2
              go_quiet (fail)
              replace X := X.drewN nq
              go_wp2
              go_meet
              exact ⟨_, _, rfl, rfl, hide (Sofar.yes _ _), hide (Sofar.yes _ _), X⟩
            · as_aux_lemma =>
              have f1 : (a.hi * b.hi == ml) = true := by simp [e1]
              have q1 := hide e1
              clear e1
              have f2 : (a.hi * b.hi == mh) = false := by simp [e2]
              have q2 := hide e2
              clear e2
              go_quiet (fail)
              replace X := X.drewN nq
              go_wp2
              go_meet
              exact ⟨_, _, rfl, rfl, hide (Sofar.yes _ _), hide (S2.out.no q2.out), X⟩
            · as_aux_lemma =>
              have f1 : (a.hi * b.hi == ml) = false := by simp [e1]
              have q1 := hide e1
              clear e1
              go_quiet (fail)
              replace X := X.drewN nq
              go_wp2
              go_meet
              exact ⟨_, _, rfl, rfl, hide (S1.out.no q1.out), hide (Sofar.yes _ _), X⟩
            · as_aux_lemma =>
              have f1 : (a.hi * b.hi == ml) = false := by simp [e1]
              have q1 := hide e1
              clear e1
              have f2 : (a.hi * b.hi == mh) = true := by simp [e2]
              have q2 := hide e2
              clear e2
              go_quiet (fail)
              replace X := X.drewN nq
              go_wp2
              go_meet
              exact ⟨_, _, rfl, rfl, hide (S1.out.no q1.out), hide (Sofar.yes _ _), X⟩
            · as_aux_lemma =>
              have f1 : (a.hi * b.hi == ml) = false := by simp [e1]
              have q1 := hide e1
              clear e1
              have f2 : (a.hi * b.hi == mh) = false := by simp [e2]
              have q2 := hide e2
              clear e2
              go_quiet (fail)
              replace X := X.drewN nq
              go_wp2
              go_meet
              exact ⟨_, _, rfl, rfl, hide (S1.out.no q1.out), hide (S2.out.no q2.out), X⟩
          case rest =>
            clear X S1 S2 hr
            obtain ⟨lw', hw', rfl, rfl, S1, S2, X⟩ := hcut
            have hr := X.r8
            clear wr1 mb mc
            go_wp2
            go_roundw
            case rel => exact ⟨2, 4, rfl, hide (by omega), ⟨_, _, _, _, rfl, rfl, rfl, rfl, rfl, rfl, S1, S2⟩, X⟩
            case measure => simp [intOf]
        · clear hJK
          have hr := X.r8
          go_wp2
          go_roundw
          case rel => exact ⟨2, 4, rfl, hide (by omega), ⟨_, _, _, _, rfl, rfl, rfl, rfl, rfl, rfl, S1, S2⟩, X.tail⟩
          case measure => simp [intOf]
    · clear hIK
      obtain rfl : lw = true := S1.out.end_ SH.out.1
      obtain rfl : hw = true := S2.out.end_ SH.out.2
      clear S1 S2
      have hr := X.r7
      rcases Int.lt_or_le a.lo 0 with r | r
      · go_wp2_with fail
        refine (A8n.out r _).mono ?_
        rintro e w9 ⟨rfl, hb⟩
        replace X := (X.to hb).alloc #[.int .i64 0, .int .i64 0] 23
        clear hb hr
        have hr := X.r8
        go_wp2
        go_ret
        exact ⟨rfl, X.1⟩
      · have R1 := isq_bd r
        have R2 := isqU_bd (n := a.lo) r (by omega)
        have R3 := isqU_bd (n := a.hi) (by omega) (by omega)
        have R5 := root_least r
        have R6 := root_least (n := a.hi) (by omega)
        have R7 : (isq a.lo + 1) * (isq a.lo + 1) ≤ 268468225 := by
          have := sq_le (a := isq a.lo + 1) (b := 16385) (by omega) (by omega)
          omega
        have R8 : 0 ≤ (isq a.lo + 1) * (isq a.lo + 1) := Int.mul_nonneg (by omega) (by omega)
        have R9 : 0 < isqU a.hi → 0 ≤ (isqU a.hi - 1) * (isqU a.hi - 1) := fun h => Int.mul_nonneg (by omega) (by omega)
        obtain ⟨s1, s2, s3⟩ := R1
        obtain ⟨_, _, _, s4, s5⟩ := R2
        obtain ⟨s6, s7, s8, s9, s10⟩ := R3
        have s11 := R5.1
        have s12 := R6.2
        clear R5 R6
        have C := fun w => A8p.out r w
        generalize isq a.lo = rl at *
        generalize isqU a.hi = rh at *
        rcases Int.lt_or_le 0 rh with hp | hp
        · have s13 := s12 hp
          have s14 := R9 hp
          clear s12 R9
          go_wp2_with fail
          refine (C _).mono ?_
          rintro e w9 ⟨rfl, hb⟩
          replace X := (X.to hb).alloc #[.int .i64 rl, .int .i64 rh] 23
          clear hb hr
          have hr := X.r8
          go_wp2
          go_ret
          exact ⟨rfl, X.1⟩
        · clear s12 R9
          go_wp2_with fail
          refine (C _).mono ?_
          rintro e w9 ⟨rfl, hb⟩
          replace X := (X.to hb).alloc #[.int .i64 rl, .int .i64 rh] 23
          clear hb hr
          have hr := X.r8
          go_wp2
          go_ret
          exact ⟨rfl, X.1⟩
end Go.Proofs.YtgflgnbbkhikcaaDoor
