/- SpanLeast: a way of the walk. -/
import Derived.Test.YtgflgnbbkhikcaaDoorSpLeastP
import Derived.Deep.DeepCutAuto
namespace Go.Proofs.YtgflgnbbkhikcaaDoor
open Go.RowKit

set_option maxRecDepth 100000 in
set_option maxHeartbeats 16000000 in
theorem least_pos (a b : Sp) (w : World) (g0 : a.lo ≤ a.hi) (g1 : b.lo ≤ b.hi) (g2 : -268435456 ≤ a.lo) (g3 : a.hi ≤ 268435456) (g4 : -268435456 ≤ b.lo) (g5 : b.hi ≤ 268435456) (z : 0 < b.lo) :
    Calls Tryd.prog 6 #[a.val, b.val] w fun e w' => e = .returned (.bool true) ∧ Below w.heap.size w w' := by
  have X := ((Own.start w).alloc #[.int .i64 a.lo, .int .i64 a.hi] 23).alloc #[.int .i64 b.lo, .int .i64 b.hi] 23
  simp only [World.size_alloc] at X
  have ha : vB a = true := vB_iff.2 (by omega)
  have hb' : vB b = true := vB_iff.2 (by omega)
  have AS := add_small (a := a) (b := b) (B := 268435456) (by omega) g2 g0 g3 g4 g1 g5
  have MS := m_small g2 g0 g3 g4 g1 g5
  have A3 := fun w => calls_se (add_any a b w) ((op2_yes ha hb' 0 _).2.trans AS.1.2) ((op2_yes ha hb' _ Sp.zero).1.trans AS.1.1)
  have A4 := fun w => calls_se (sub_any a b w) ((op2_yes ha hb' 0 _).2.trans AS.2.2) ((op2_yes ha hb' _ Sp.zero).1.trans AS.2.1)
  have A5 := fun w => calls_se (mul_any a b w) (t := ⟨m4 a b, M4 a b⟩) (er' := 0) ((op2_yes ha hb' 0 _).2.trans MS.2) ((op2_yes ha hb' _ Sp.zero).1.trans MS.1)
  have SH := hide (some_hit a b)
  have A8 := Root_any a
  have A8n := fun (r : a.lo < 0) w => calls_se (Root_any a w) (t := ⟨0, 0⟩) (er' := 2) (roo_neg ha r).2 (roo_neg ha r).1
  have A8p := fun (r : 0 ≤ a.lo) w => calls_se (Root_any a w) (roo_yes ha r).2 (roo_yes ha r).1
  clear A8
  replace A8n := hide A8n
  replace A8p := hide A8p
  have MB0 := mul_bdB (x := a.lo) (y := b.lo) (A := 268435456) (B := 268435456) (by omega) (by omega) (by omega) (by omega) (by omega)
  have MI0 : -72057594037927936 ≤ a.lo * b.lo ∧ a.lo * b.lo ≤ 72057594037927936 := by omega
  have PB0 := hide MI0
  clear MB0
  have WR0 := hide (IntWalk.i64_in (a.lo * b.lo) (by omega))
  clear MI0
  have MB1 := mul_bdB (x := a.lo) (y := b.hi) (A := 268435456) (B := 268435456) (by omega) (by omega) (by omega) (by omega) (by omega)
  have MI1 : -72057594037927936 ≤ a.lo * b.hi ∧ a.lo * b.hi ≤ 72057594037927936 := by omega
  have PB1 := hide MI1
  clear MB1
  have WR1 := hide (IntWalk.i64_in (a.lo * b.hi) (by omega))
  clear MI1
  have MB2 := mul_bdB (x := a.hi) (y := b.lo) (A := 268435456) (B := 268435456) (by omega) (by omega) (by omega) (by omega) (by omega)
  have MI2 : -72057594037927936 ≤ a.hi * b.lo ∧ a.hi * b.lo ≤ 72057594037927936 := by omega
  have PB2 := hide MI2
  clear MB2
  have WR2 := hide (IntWalk.i64_in (a.hi * b.lo) (by omega))
  clear MI2
  have MB3 := mul_bdB (x := a.hi) (y := b.hi) (A := 268435456) (B := 268435456) (by omega) (by omega) (by omega) (by omega) (by omega)
  have MI3 : -72057594037927936 ≤ a.hi * b.hi ∧ a.hi * b.hi ≤ 72057594037927936 := by omega
  have PB3 := hide MI3
  clear MB3
  have WR3 := hide (IntWalk.i64_in (a.hi * b.hi) (by omega))
  clear MI3
  have z0 : hasB b 0 = false := by
    cases e : hasB b 0
    · rfl
    · have := hasB_iff.1 e; omega
  have DS := div_small ha hb' z0 g2 g0 g3 (by omega) (by omega)
  have QBD := q_bd (a := a) (b := b) (B := 268435456) (by omega) g2 g0 g3 (by omega) (by omega)
  have SQ := hide (some_hitQ (s := 1) (by omega) (a := a) (b := b) (by omega) (by omega))
  have A7 := fun w => calls_se (div_any a b w) ((op2_yes ha hb' 0 _).2.trans DS.2) ((op2_yes ha hb' _ Sp.zero).1.trans DS.1)
  obtain ⟨qb1, qb2, qb3, qb4, qb5⟩ := QBD
  clear z0 DS
  have QM := mul_bdB (x := qLo a b) (y := b.lo) (A := 268435457) (B := 268435456) (by omega) (by omega) (by omega) (by omega) (by omega)
  have QN00 : -144115188075855872 ≤ qLo a b * b.lo ∧ qLo a b * b.lo ≤ 144115188075855872 := by omega
  have HN00 := hide QN00
  clear QM QN00
  have QM := mul_bdB (x := (qLo a b + 1)) (y := b.lo) (A := 268435457) (B := 268435456) (by omega) (by omega) (by omega) (by omega) (by omega)
  have QN01 : -144115188075855872 ≤ (qLo a b + 1) * b.lo ∧ (qLo a b + 1) * b.lo ≤ 144115188075855872 := by omega
  have HN01 := hide QN01
  clear QM QN01
  have QM := mul_bdB (x := qHi a b) (y := b.lo) (A := 268435457) (B := 268435456) (by omega) (by omega) (by omega) (by omega) (by omega)
  have QN02 : -144115188075855872 ≤ qHi a b * b.lo ∧ qHi a b * b.lo ≤ 144115188075855872 := by omega
  have HN02 := hide QN02
  clear QM QN02
  have QM := mul_bdB (x := (qHi a b - 1)) (y := b.lo) (A := 268435457) (B := 268435456) (by omega) (by omega) (by omega) (by omega) (by omega)
  have QN03 : -144115188075855872 ≤ (qHi a b - 1) * b.lo ∧ (qHi a b - 1) * b.lo ≤ 144115188075855872 := by omega
  have HN03 := hide QN03
  clear QM QN03
  have QM := mul_bdB (x := qLo a b) (y := b.hi) (A := 268435457) (B := 268435456) (by omega) (by omega) (by omega) (by omega) (by omega)
  have QN10 : -144115188075855872 ≤ qLo a b * b.hi ∧ qLo a b * b.hi ≤ 144115188075855872 := by omega
  have HN10 := hide QN10
  clear QM QN10
  have QM := mul_bdB (x := (qLo a b + 1)) (y := b.hi) (A := 268435457) (B := 268435456) (by omega) (by omega) (by omega) (by omega) (by omega)
  have QN11 : -144115188075855872 ≤ (qLo a b + 1) * b.hi ∧ (qLo a b + 1) * b.hi ≤ 144115188075855872 := by omega
  have HN11 := hide QN11
  clear QM QN11
  have QM := mul_bdB (x := qHi a b) (y := b.hi) (A := 268435457) (B := 268435456) (by omega) (by omega) (by omega) (by omega) (by omega)
  have QN12 : -144115188075855872 ≤ qHi a b * b.hi ∧ qHi a b * b.hi ≤ 144115188075855872 := by omega
  have HN12 := hide QN12
  clear QM QN12
  have QM := mul_bdB (x := (qHi a b - 1)) (y := b.hi) (A := 268435457) (B := 268435456) (by omega) (by omega) (by omega) (by omega) (by omega)
  have QN13 : -144115188075855872 ≤ (qHi a b - 1) * b.hi ∧ (qHi a b - 1) * b.hi ≤ 144115188075855872 := by omega
  have HN13 := hide QN13
  clear QM QN13
  clear AS MS ha hb'
  generalize m4 a b = ml at *
  generalize M4 a b = mh at *
  generalize qLo a b = ql at *
  generalize qHi a b = qh at *
  go_enter Tryd.func6, Tryd.ntmps6
  have hr := X.r2
  go_wp2_with fail
  refine (awake_any _).mono ?_
  rintro e w0 ⟨rfl, hb⟩
  replace X := X.to hb
  clear hb hr
  have hr := X.r2
  go_wp2_with fail
  refine (A3 _).mono ?_
  rintro e w1 ⟨rfl, hb⟩
  replace X := (X.to hb).alloc #[.int .i64 (a.lo + b.lo), .int .i64 (a.hi + b.hi)] 23
  clear hb hr
  have hr := X.r3
  go_wp2_with fail
  refine (A4 _).mono ?_
  rintro e w2 ⟨rfl, hb⟩
  replace X := (X.to hb).alloc #[.int .i64 (a.lo - b.hi), .int .i64 (a.hi - b.lo)] 23
  clear hb hr
  have hr := X.r4
  go_wp2_with fail
  refine (A5 _).mono ?_
  rintro e w3 ⟨rfl, hb⟩
  replace X := (X.to hb).alloc #[.int .i64 ml, .int .i64 mh] 23
  clear hb hr
  have hr := X.r5
  go_wp2_with fail
  refine (A7 _).mono ?_
  rintro e w4 ⟨rfl, hb⟩
  replace X := (X.to hb).alloc #[.int .i64 ql, .int .i64 qh] 23
  clear hb hr
  have hr := X.r6
  clear A3 A4 A5 A7
  replace X := X.alloc #[.int .i64 a.lo, .int .i64 a.hi] 3
  simp only [World.size_alloc] at X
  go_wp2
  generalize w1.heap.size = bs at *
  generalize w2.heap.size = bd at *
  generalize w3.heap.size = bp at *
  generalize w4.heap.size = bq at *
  clear hr
  go_loopw [11, 12, 15, 16, 159] (fun v11 v12 v15 v16 v159 wr => ∃ (I : Int) (K : Nat), v159 = .int .i64 I ∧ Hid ((I = 0 ∧ K = 0) ∨ (I = 1 ∧ K = 2) ∨ (I = 2 ∧ K = 4)) ∧ (∃ lw hw be ab : Bool, v11 = .bool lw ∧ v12 = .bool hw ∧ v15 = .bool be ∧ v16 = .bool ab ∧ Hid (Sofar (Hit a b ml) K lw) ∧ Hid (Sofar (Hit a b mh) K hw) ∧ Hid (Sofar (HitB 1 a b ql) K be) ∧ Hid (Sofar (HitA 1 a b qh) K ab)) ∧
      Own w wr [(bq + 1, 3, #[.int .i64 a.lo, .int .i64 a.hi]), (bq, 23, #[.int .i64 ql, .int .i64 qh]), (bp, 23, #[.int .i64 ml, .int .i64 mh]), (bd, 23, #[.int .i64 (a.lo - b.hi), .int .i64 (a.hi - b.lo)]), (bs, 23, #[.int .i64 (a.lo + b.lo), .int .i64 (a.hi + b.hi)]), (w.heap.size + 1, 23, #[.int .i64 b.lo, .int .i64 b.hi]), (w.heap.size, 23, #[.int .i64 a.lo, .int .i64 a.hi])]) (fun _ _ _ _ v _ => (2 - intOf v).toNat)
  case atStart => exact ⟨0, 0, rfl, hide (.inl ⟨rfl, rfl⟩), ⟨false, false, false, false, rfl, rfl, rfl, rfl, hide (Sofar.zero _ _), hide (Sofar.zero _ _), hide (Sofar.zero _ _), hide (Sofar.zero _ _)⟩, X⟩
  case round =>
    clear X
    obtain ⟨wo, rfl⟩ : ∃ wo : World, wo = wr := ⟨_, rfl⟩
    obtain ⟨I, K, rfl, hIK, ⟨lw, hw, be, ab, rfl, rfl, rfl, rfl, S1, S2, S3, S4⟩, X⟩ := hrel
    rcases hIK.out with ⟨rfl, rfl⟩ | ⟨rfl, rfl⟩ | ⟨rfl, rfl⟩
    · clear hIK
      have hr := X.r7
      replace X := X.alloc #[.int .i64 b.lo, .int .i64 b.hi] 3
      go_wp2
      have hsz := X.tail.1.size
      generalize wo.heap.size = is at *
      clear hr
      go_loopw [11, 12, 15, 16, 169] (fun v11 v12 v15 v16 v169 wi => ∃ (J : Int) (K : Nat), v169 = .int .i64 J ∧ Hid ((J = 0 ∧ K = 0) ∨ (J = 1 ∧ K = 1) ∨ (J = 2 ∧ K = 2)) ∧ (∃ lw hw be ab : Bool, v11 = .bool lw ∧ v12 = .bool hw ∧ v15 = .bool be ∧ v16 = .bool ab ∧ Hid (Sofar (Hit a b ml) K lw) ∧ Hid (Sofar (Hit a b mh) K hw) ∧ Hid (Sofar (HitB 1 a b ql) K be) ∧ Hid (Sofar (HitA 1 a b qh) K ab)) ∧
          Own w wi [(is, 3, #[.int .i64 b.lo, .int .i64 b.hi]), (bq + 1, 3, #[.int .i64 a.lo, .int .i64 a.hi]), (bq, 23, #[.int .i64 ql, .int .i64 qh]), (bp, 23, #[.int .i64 ml, .int .i64 mh]), (bd, 23, #[.int .i64 (a.lo - b.hi), .int .i64 (a.hi - b.lo)]), (bs, 23, #[.int .i64 (a.lo + b.lo), .int .i64 (a.hi + b.hi)]), (w.heap.size + 1, 23, #[.int .i64 b.lo, .int .i64 b.hi]), (w.heap.size, 23, #[.int .i64 a.lo, .int .i64 a.hi])]) (fun _ _ _ _ v _ => (2 - intOf v).toNat)
      case atStart => exact ⟨0, 0, rfl, hide (.inl ⟨rfl, rfl⟩), ⟨_, _, _, _, rfl, rfl, rfl, rfl, S1, S2, S3, S4⟩, X⟩
      case round =>
        clear X S1 S2 S3 S4
        obtain ⟨J, K, rfl, hJK, ⟨lw, hw, be, ab, rfl, rfl, rfl, rfl, S1, S2, S3, S4⟩, X⟩ := hrel
        rcases hJK.out with ⟨rfl, rfl⟩ | ⟨rfl, rfl⟩ | ⟨rfl, rfl⟩
        · clear hJK
          have hr := X.r8
          have wr1 := WR0.out
          obtain ⟨mb, mc⟩ := PB0.out
          go_wp2_with fail
          go_cut [11, 12] (fun v11 v12 wx => ∃ lw' hw' : Bool, v11 = .bool lw' ∧ v12 = .bool hw' ∧ Hid (Sofar (Hit a b ml) 1 lw') ∧ Hid (Sofar (Hit a b mh) 1 hw') ∧ Own w wx [(is, 3, #[.int .i64 b.lo, .int .i64 b.hi]), (bq + 1, 3, #[.int .i64 a.lo, .int .i64 a.hi]), (bq, 23, #[.int .i64 ql, .int .i64 qh]), (bp, 23, #[.int .i64 ml, .int .i64 mh]), (bd, 23, #[.int .i64 (a.lo - b.hi), .int .i64 (a.hi - b.lo)]), (bs, 23, #[.int .i64 (a.lo + b.lo), .int .i64 (a.hi + b.hi)]), (w.heap.size + 1, 23, #[.int .i64 b.lo, .int .i64 b.hi]), (w.heap.size, 23, #[.int .i64 a.lo, .int .i64 a.hi])])
          case first =>
            have O1 : lw = true ∨ (lw = false ∧ a.lo * b.lo = ml) ∨ (lw = false ∧ ¬ a.lo * b.lo = ml) := by cases lw <;> by_cases c : a.lo * b.lo = ml <;> simp [c]
            have O2 : hw = true ∨ (hw = false ∧ a.lo * b.lo = mh) ∨ (hw = false ∧ ¬ a.lo * b.lo = mh) := by cases hw <;> by_cases c : a.lo * b.lo = mh <;> simp [c]
            rcases O1 with rfl | ⟨rfl, e1⟩ | ⟨rfl, e1⟩ <;> rcases O2 with rfl | ⟨rfl, e2⟩ | ⟨rfl, e2⟩
            · as_aux_lemma =>
              go_quiet (fail)
              replace X := X.drewN nq
              go_wp2
              go_meet
              exact ⟨_, _, rfl, rfl, hide (Sofar.yes _ _), hide (Sofar.yes _ _), X⟩
            · as_aux_lemma =>
              have f2 : (a.lo * b.lo == mh) = true := by simp [e2]
              have q2 := hide e2
              clear e2
              go_quiet (fail)
              replace X := X.drewN nq
              go_wp2
              go_meet
              exact ⟨_, _, rfl, rfl, hide (Sofar.yes _ _), hide (Sofar.yes _ _), X⟩
            · as_aux_lemma =>
              have f2 : (a.lo * b.lo == mh) = false := by simp [e2]
              have q2 := hide e2
              clear e2
              go_quiet (fail)
              replace X := X.drewN nq
              go_wp2
              go_meet
              exact ⟨_, _, rfl, rfl, hide (Sofar.yes _ _), hide (S2.out.no q2.out), X⟩
            · as_aux_lemma =>
              have f1 : (a.lo * b.lo == ml) = true := by simp [e1]
              have q1 := hide e1
              clear e1
              go_quiet (fail)
              replace X := X.drewN nq
              go_wp2
              go_meet
              exact ⟨_, _, rfl, rfl, hide (Sofar.yes _ _), hide (Sofar.yes _ _), X⟩
            · as_aux_lemma =>
              have f1 : (a.lo * b.lo == ml) = true := by simp [e1]
              have q1 := hide e1
              clear e1
              have f2 : (a.lo * b.lo == mh) = true := by simp [e2]
              have q2 := hide e2
              clear e2
              go_quiet (fail)
              replace X := X.drewN nq
              go_wp2
              go_meet
              exact ⟨_, _, rfl, rfl, hide (Sofar.yes _ _), hide (Sofar.yes _ _), X⟩
            · as_aux_lemma =>
              have f1 : (a.lo * b.lo == ml) = true := by simp [e1]
              have q1 := hide e1
              clear e1
              have f2 : (a.lo * b.lo == mh) = false := by simp [e2]
              have q2 := hide e2
              clear e2
              go_quiet (fail)
              replace X := X.drewN nq
              go_wp2
              go_meet
              exact ⟨_, _, rfl, rfl, hide (Sofar.yes _ _), hide (S2.out.no q2.out), X⟩
            · as_aux_lemma =>
              have f1 : (a.lo * b.lo == ml) = false := by simp [e1]
              have q1 := hide e1
              clear e1
              go_quiet (fail)
              replace X := X.drewN nq
              go_wp2
              go_meet
              exact ⟨_, _, rfl, rfl, hide (S1.out.no q1.out), hide (Sofar.yes _ _), X⟩
            · as_aux_lemma =>
              have f1 : (a.lo * b.lo == ml) = false := by simp [e1]
              have q1 := hide e1
              clear e1
              have f2 : (a.lo * b.lo == mh) = true := by simp [e2]
              have q2 := hide e2
              clear e2
              go_quiet (fail)
              replace X := X.drewN nq
              go_wp2
              go_meet
              exact ⟨_, _, rfl, rfl, hide (S1.out.no q1.out), hide (Sofar.yes _ _), X⟩
            · as_aux_lemma =>
              have f1 : (a.lo * b.lo == ml) = false := by simp [e1]
              have q1 := hide e1
              clear e1
              have f2 : (a.lo * b.lo == mh) = false := by simp [e2]
              have q2 := hide e2
              clear e2
              go_quiet (fail)
              replace X := X.drewN nq
              go_wp2
              go_meet
              exact ⟨_, _, rfl, rfl, hide (S1.out.no q1.out), hide (S2.out.no q2.out), X⟩
          case rest =>
            clear X S1 S2 hr
            obtain ⟨lw', hw', rfl, rfl, S1, S2, X⟩ := hcut
            have hr := X.r8
            clear wr1 mb mc
            obtain ⟨qa0, qc0⟩ := HN00.out
            obtain ⟨qa1, qc1⟩ := HN01.out
            obtain ⟨qa2, qc2⟩ := HN02.out
            obtain ⟨qa3, qc3⟩ := HN03.out
            have hB := hide (show HitB 1 a b ql 0 ↔ (ql * b.lo ≤ a.lo ∧ a.lo < (ql + 1) * b.lo) by show ql * (1 * b.lo) ≤ 1 * a.lo ∧ 1 * a.lo < (ql + 1) * (1 * b.lo) ↔ _; rw [show 1 * b.lo = b.lo by omega, show 1 * a.lo = a.lo by omega])
            have hA := hide (show HitA 1 a b qh 0 ↔ (a.lo ≤ qh * b.lo ∧ (qh - 1) * b.lo < a.lo) by show 1 * a.lo ≤ qh * (1 * b.lo) ∧ (qh - 1) * (1 * b.lo) < 1 * a.lo ↔ _; rw [show 1 * b.lo = b.lo by omega, show 1 * a.lo = a.lo by omega])
            have OB : be = true ∨ (be = false ∧ ¬ ql * b.lo ≤ a.lo) ∨ (be = false ∧ ql * b.lo ≤ a.lo ∧ ¬ a.lo < (ql + 1) * b.lo) ∨ (be = false ∧ ql * b.lo ≤ a.lo ∧ a.lo < (ql + 1) * b.lo) := by cases be <;> by_cases c1 : ql * b.lo ≤ a.lo <;> by_cases c2 : a.lo < (ql + 1) * b.lo <;> simp [c1, c2]
            have OA : ab = true ∨ (ab = false ∧ ¬ a.lo ≤ qh * b.lo) ∨ (ab = false ∧ a.lo ≤ qh * b.lo ∧ ¬ (qh - 1) * b.lo < a.lo) ∨ (ab = false ∧ a.lo ≤ qh * b.lo ∧ (qh - 1) * b.lo < a.lo) := by cases ab <;> by_cases c1 : a.lo ≤ qh * b.lo <;> by_cases c2 : (qh - 1) * b.lo < a.lo <;> simp [c1, c2]
            rcases OB with rfl | ⟨rfl, t1⟩ | ⟨rfl, t1, t2⟩ | ⟨rfl, t1, t2⟩ <;> rcases OA with rfl | ⟨rfl, t3⟩ | ⟨rfl, t3, t4⟩ | ⟨rfl, t3, t4⟩
            · as_aux_lemma =>
              go_wp2
              go_roundw
              case rel => exact ⟨1, 1, rfl, hide (by omega), ⟨_, _, _, _, rfl, rfl, rfl, rfl, S1, S2, hide (Sofar.yes _ _), hide (Sofar.yes _ _)⟩, X⟩
              case measure => simp [intOf]
            · as_aux_lemma =>
              have q3 := hide t3
              go_wp2
              go_roundw
              case rel => exact ⟨1, 1, rfl, hide (by omega), ⟨_, _, _, _, rfl, rfl, rfl, rfl, S1, S2, hide (Sofar.yes _ _), hide (S4.out.no (fun h => q3.out (hA.out.1 h).1))⟩, X⟩
              case measure => simp [intOf]
            · as_aux_lemma =>
              have q3 := hide t3
              have q4 := hide t4
              go_wp2
              go_roundw
              case rel => exact ⟨1, 1, rfl, hide (by omega), ⟨_, _, _, _, rfl, rfl, rfl, rfl, S1, S2, hide (Sofar.yes _ _), hide (S4.out.no (fun h => q4.out (hA.out.1 h).2))⟩, X⟩
              case measure => simp [intOf]
            · as_aux_lemma =>
              have q3 := hide t3
              have q4 := hide t4
              go_wp2
              go_roundw
              case rel => exact ⟨1, 1, rfl, hide (by omega), ⟨_, _, _, _, rfl, rfl, rfl, rfl, S1, S2, hide (Sofar.yes _ _), hide (Sofar.yes _ _)⟩, X⟩
              case measure => simp [intOf]
            · as_aux_lemma =>
              have q1 := hide t1
              go_wp2
              go_roundw
              case rel => exact ⟨1, 1, rfl, hide (by omega), ⟨_, _, _, _, rfl, rfl, rfl, rfl, S1, S2, hide (S3.out.no (fun h => q1.out (hB.out.1 h).1)), hide (Sofar.yes _ _)⟩, X⟩
              case measure => simp [intOf]
            · as_aux_lemma =>
              have q1 := hide t1
              have q3 := hide t3
              go_wp2
              go_roundw
              case rel => exact ⟨1, 1, rfl, hide (by omega), ⟨_, _, _, _, rfl, rfl, rfl, rfl, S1, S2, hide (S3.out.no (fun h => q1.out (hB.out.1 h).1)), hide (S4.out.no (fun h => q3.out (hA.out.1 h).1))⟩, X⟩
              case measure => simp [intOf]
            · as_aux_lemma =>
              have q1 := hide t1
              have q3 := hide t3
              have q4 := hide t4
              go_wp2
              go_roundw
              case rel => exact ⟨1, 1, rfl, hide (by omega), ⟨_, _, _, _, rfl, rfl, rfl, rfl, S1, S2, hide (S3.out.no (fun h => q1.out (hB.out.1 h).1)), hide (S4.out.no (fun h => q4.out (hA.out.1 h).2))⟩, X⟩
              case measure => simp [intOf]
            · as_aux_lemma =>
              have q1 := hide t1
              have q3 := hide t3
              have q4 := hide t4
              go_wp2
              go_roundw
              case rel => exact ⟨1, 1, rfl, hide (by omega), ⟨_, _, _, _, rfl, rfl, rfl, rfl, S1, S2, hide (S3.out.no (fun h => q1.out (hB.out.1 h).1)), hide (Sofar.yes _ _)⟩, X⟩
              case measure => simp [intOf]
            · as_aux_lemma =>
              have q1 := hide t1
              have q2 := hide t2
              go_wp2
              go_roundw
              case rel => exact ⟨1, 1, rfl, hide (by omega), ⟨_, _, _, _, rfl, rfl, rfl, rfl, S1, S2, hide (S3.out.no (fun h => q2.out (hB.out.1 h).2)), hide (Sofar.yes _ _)⟩, X⟩
              case measure => simp [intOf]
            · as_aux_lemma =>
              have q1 := hide t1
              have q2 := hide t2
              have q3 := hide t3
              go_wp2
              go_roundw
              case rel => exact ⟨1, 1, rfl, hide (by omega), ⟨_, _, _, _, rfl, rfl, rfl, rfl, S1, S2, hide (S3.out.no (fun h => q2.out (hB.out.1 h).2)), hide (S4.out.no (fun h => q3.out (hA.out.1 h).1))⟩, X⟩
              case measure => simp [intOf]
            · as_aux_lemma =>
              have q1 := hide t1
              have q2 := hide t2
              have q3 := hide t3
              have q4 := hide t4
              go_wp2
              go_roundw
              case rel => exact ⟨1, 1, rfl, hide (by omega), ⟨_, _, _, _, rfl, rfl, rfl, rfl, S1, S2, hide (S3.out.no (fun h => q2.out (hB.out.1 h).2)), hide (S4.out.no (fun h => q4.out (hA.out.1 h).2))⟩, X⟩
              case measure => simp [intOf]
            · as_aux_lemma =>
              have q1 := hide t1
              have q2 := hide t2
              have q3 := hide t3
              have q4 := hide t4
              go_wp2
              go_roundw
              case rel => exact ⟨1, 1, rfl, hide (by omega), ⟨_, _, _, _, rfl, rfl, rfl, rfl, S1, S2, hide (S3.out.no (fun h => q2.out (hB.out.1 h).2)), hide (Sofar.yes _ _)⟩, X⟩
              case measure => simp [intOf]
            · as_aux_lemma =>
              have q1 := hide t1
              have q2 := hide t2
              go_wp2
              go_roundw
              case rel => exact ⟨1, 1, rfl, hide (by omega), ⟨_, _, _, _, rfl, rfl, rfl, rfl, S1, S2, hide (Sofar.yes _ _), hide (Sofar.yes _ _)⟩, X⟩
              case measure => simp [intOf]
            · as_aux_lemma =>
              have q1 := hide t1
              have q2 := hide t2
              have q3 := hide t3
              go_wp2
              go_roundw
              case rel => exact ⟨1, 1, rfl, hide (by omega), ⟨_, _, _, _, rfl, rfl, rfl, rfl, S1, S2, hide (Sofar.yes _ _), hide (S4.out.no (fun h => q3.out (hA.out.1 h).1))⟩, X⟩
              case measure => simp [intOf]
            · as_aux_lemma =>
              have q1 := hide t1
              have q2 := hide t2
              have q3 := hide t3
              have q4 := hide t4
              go_wp2
              go_roundw
              case rel => exact ⟨1, 1, rfl, hide (by omega), ⟨_, _, _, _, rfl, rfl, rfl, rfl, S1, S2, hide (Sofar.yes _ _), hide (S4.out.no (fun h => q4.out (hA.out.1 h).2))⟩, X⟩
              case measure => simp [intOf]
            · as_aux_lemma =>
              have q1 := hide t1
              have q2 := hide t2
              have q3 := hide t3
              have q4 := hide t4
              go_wp2
              go_roundw
              case rel => exact ⟨1, 1, rfl, hide (by omega), ⟨_, _, _, _, rfl, rfl, rfl, rfl, S1, S2, hide (Sofar.yes _ _), hide (Sofar.yes _ _)⟩, X⟩
              case measure => simp [intOf]
        · clear hJK
          have hr := X.r8
          have wr1 := WR1.out
          obtain ⟨mb, mc⟩ := PB1.out
          go_wp2_with fail
          go_cut [11, 12] (fun v11 v12 wx => ∃ lw' hw' : Bool, v11 = .bool lw' ∧ v12 = .bool hw' ∧ Hid (Sofar (Hit a b ml) 2 lw') ∧ Hid (Sofar (Hit a b mh) 2 hw') ∧ Own w wx [(is, 3, #[.int .i64 b.lo, .int .i64 b.hi]), (bq + 1, 3, #[.int .i64 a.lo, .int .i64 a.hi]), (bq, 23, #[.int .i64 ql, .int .i64 qh]), (bp, 23, #[.int .i64 ml, .int .i64 mh]), (bd, 23, #[.int .i64 (a.lo - b.hi), .int .i64 (a.hi - b.lo)]), (bs, 23, #[.int .i64 (a.lo + b.lo), .int .i64 (a.hi + b.hi)]), (w.heap.size + 1, 23, #[.int .i64 b.lo, .int .i64 b.hi]), (w.heap.size, 23, #[.int .i64 a.lo, .int .i64 a.hi])])
          case first =>
            have O1 : lw = true ∨ (lw = false ∧ a.lo * b.hi = ml) ∨ (lw = false ∧ ¬ a.lo * b.hi = ml) := by cases lw <;> by_cases c : a.lo * b.hi = ml <;> simp [c]
            have O2 : hw = true ∨ (hw = false ∧ a.lo * b.hi = mh) ∨ (hw = false ∧ ¬ a.lo * b.hi = mh) := by cases hw <;> by_cases c : a.lo * b.hi = mh <;> simp [c]
            rcases O1 with rfl | ⟨rfl, e1⟩ | ⟨rfl, e1⟩ <;> rcases O2 with rfl | ⟨rfl, e2⟩ | ⟨rfl, e2⟩
            · as_aux_lemma =>
              go_quiet (fail)
              replace X := X.drewN nq
              go_wp2
              go_meet
              exact ⟨_, _, rfl, rfl, hide (Sofar.yes _ _), hide (Sofar.yes _ _), X⟩
            · as_aux_lemma =>
              have f2 : (a.lo * b.hi == mh) = true := by simp [e2]
              have q2 := hide e2
              clear e2
              go_quiet (fail)
              replace X := X.drewN nq
              go_wp2
              go_meet
              exact ⟨_, _, rfl, rfl, hide (Sofar.yes _ _), hide (Sofar.yes _ _), X⟩
            · as_aux_lemma =>
              have f2 : (a.lo * b.hi == mh) = false := by simp [e2]
              have q2 := hide e2
              clear e2
              go_quiet (fail)
              replace X := X.drewN nq
              go_wp2
              go_meet
              exact ⟨_, _, rfl, rfl, hide (Sofar.yes _ _), hide (S2.out.no q2.out), X⟩
            · as_aux_lemma =>
              have f1 : (a.lo * b.hi == ml) = true := by simp [e1]
              have q1 := hide e1
              clear e1
              go_quiet (fail)
              replace X := X.drewN nq
              go_wp2
              go_meet
              exact ⟨_, _, rfl, rfl, hide (Sofar.yes _ _), hide (Sofar.yes _ _), X⟩
            · as_aux_lemma =>
              have f1 : (a.lo * b.hi == ml) = true := by simp [e1]
              have q1 := hide e1
              clear e1
              have f2 : (a.lo * b.hi == mh) = true := by simp [e2]
              have q2 := hide e2
              clear e2
              go_quiet (fail)
              replace X := X.drewN nq
              go_wp2
              go_meet
              exact ⟨_, _, rfl, rfl, hide (Sofar.yes _ _), hide (Sofar.yes _ _), X⟩
            · as_aux_lemma =>
              have f1 : (a.lo * b.hi == ml) = true := by simp [e1]
              have q1 := hide e1
              clear e1
              have f2 : (a.lo * b.hi == mh) = false := by simp [e2]
              have q2 := hide e2
              clear e2
              go_quiet (fail)
              replace X := X.drewN nq
              go_wp2
              go_meet
              exact ⟨_, _, rfl, rfl, hide (Sofar.yes _ _), hide (S2.out.no q2.out), X⟩
            · as_aux_lemma =>
              have f1 : (a.lo * b.hi == ml) = false := by simp [e1]
              have q1 := hide e1
              clear e1
              go_quiet (fail)
              replace X := X.drewN nq
              go_wp2
              go_meet
              exact ⟨_, _, rfl, rfl, hide (S1.out.no q1.out), hide (Sofar.yes _ _), X⟩
            · as_aux_lemma =>
              have f1 : (a.lo * b.hi == ml) = false := by simp [e1]
              have q1 := hide e1
              clear e1
              have f2 : (a.lo * b.hi == mh) = true := by simp [e2]
              have q2 := hide e2
              clear e2
              go_quiet (fail)
              replace X := X.drewN nq
              go_wp2
              go_meet
              exact ⟨_, _, rfl, rfl, hide (S1.out.no q1.out), hide (Sofar.yes _ _), X⟩
            · as_aux_lemma =>
              have f1 : (a.lo * b.hi == ml) = false := by simp [e1]
              have q1 := hide e1
              clear e1
              have f2 : (a.lo * b.hi == mh) = false := by simp [e2]
              have q2 := hide e2
              clear e2
              go_quiet (fail)
              replace X := X.drewN nq
              go_wp2
              go_meet
              exact ⟨_, _, rfl, rfl, hide (S1.out.no q1.out), hide (S2.out.no q2.out), X⟩
          case rest =>
            clear X S1 S2 hr
            obtain ⟨lw', hw', rfl, rfl, S1, S2, X⟩ := hcut
            have hr := X.r8
            clear wr1 mb mc
            obtain ⟨qa0, qc0⟩ := HN10.out
            obtain ⟨qa1, qc1⟩ := HN11.out
            obtain ⟨qa2, qc2⟩ := HN12.out
            obtain ⟨qa3, qc3⟩ := HN13.out
            have hB := hide (show HitB 1 a b ql 1 ↔ (ql * b.hi ≤ a.lo ∧ a.lo < (ql + 1) * b.hi) by show ql * (1 * b.hi) ≤ 1 * a.lo ∧ 1 * a.lo < (ql + 1) * (1 * b.hi) ↔ _; rw [show 1 * b.hi = b.hi by omega, show 1 * a.lo = a.lo by omega])
            have hA := hide (show HitA 1 a b qh 1 ↔ (a.lo ≤ qh * b.hi ∧ (qh - 1) * b.hi < a.lo) by show 1 * a.lo ≤ qh * (1 * b.hi) ∧ (qh - 1) * (1 * b.hi) < 1 * a.lo ↔ _; rw [show 1 * b.hi = b.hi by omega, show 1 * a.lo = a.lo by omega])
            have OB : be = true ∨ (be = false ∧ ¬ ql * b.hi ≤ a.lo) ∨ (be = false ∧ ql * b.hi ≤ a.lo ∧ ¬ a.lo < (ql + 1) * b.hi) ∨ (be = false ∧ ql * b.hi ≤ a.lo ∧ a.lo < (ql + 1) * b.hi) := by cases be <;> by_cases c1 : ql * b.hi ≤ a.lo <;> by_cases c2 : a.lo < (ql + 1) * b.hi <;> simp [c1, c2]
            have OA : ab = true ∨ (ab = false ∧ ¬ a.lo ≤ qh * b.hi) ∨ (ab = false ∧ a.lo ≤ qh * b.hi ∧ ¬ (qh - 1) * b.hi < a.lo) ∨ (ab = false ∧ a.lo ≤ qh * b.hi ∧ (qh - 1) * b.hi < a.lo) := by cases ab <;> by_cases c1 : a.lo ≤ qh * b.hi <;> by_cases c2 : (qh - 1) * b.hi < a.lo <;> simp [c1, c2]
            rcases OB with rfl | ⟨rfl, t1⟩ | ⟨rfl, t1, t2⟩ | ⟨rfl, t1, t2⟩ <;> rcases OA with rfl | ⟨rfl, t3⟩ | ⟨rfl, t3, t4⟩ | ⟨rfl, t3, t4⟩
            · as_aux_lemma =>
              go_wp2
              go_roundw
              case rel => exact ⟨2, 2, rfl, hide (by omega), ⟨_, _, _, _, rfl, rfl, rfl, rfl, S1, S2, hide (Sofar.yes _ _), hide (Sofar.yes _ _)⟩, X⟩
              case measure => simp [intOf]
            · as_aux_lemma =>
              have q3 := hide t3
              go_wp2
              go_roundw
              case rel => exact ⟨2, 2, rfl, hide (by omega), ⟨_, _, _, _, rfl, rfl, rfl, rfl, S1, S2, hide (Sofar.yes _ _), hide (S4.out.no (fun h => q3.out (hA.out.1 h).1))⟩, X⟩
              case measure => simp [intOf]
            · as_aux_lemma =>
              have q3 := hide t3
              have q4 := hide t4
              go_wp2
              go_roundw
              case rel => exact ⟨2, 2, rfl, hide (by omega), ⟨_, _, _, _, rfl, rfl, rfl, rfl, S1, S2, hide (Sofar.yes _ _), hide (S4.out.no (fun h => q4.out (hA.out.1 h).2))⟩, X⟩
              case measure => simp [intOf]
            · as_aux_lemma =>
              have q3 := hide t3
              have q4 := hide t4
              go_wp2
              go_roundw
              case rel => exact ⟨2, 2, rfl, hide (by omega), ⟨_, _, _, _, rfl, rfl, rfl, rfl, S1, S2, hide (Sofar.yes _ _), hide (Sofar.yes _ _)⟩, X⟩
              case measure => simp [intOf]
            · as_aux_lemma =>
              have q1 := hide t1
              go_wp2
              go_roundw
              case rel => exact ⟨2, 2, rfl, hide (by omega), ⟨_, _, _, _, rfl, rfl, rfl, rfl, S1, S2, hide (S3.out.no (fun h => q1.out (hB.out.1 h).1)), hide (Sofar.yes _ _)⟩, X⟩
              case measure => simp [intOf]
            · as_aux_lemma =>
              have q1 := hide t1
              have q3 := hide t3
              go_wp2
              go_roundw
              case rel => exact ⟨2, 2, rfl, hide (by omega), ⟨_, _, _, _, rfl, rfl, rfl, rfl, S1, S2, hide (S3.out.no (fun h => q1.out (hB.out.1 h).1)), hide (S4.out.no (fun h => q3.out (hA.out.1 h).1))⟩, X⟩
              case measure => simp [intOf]
            · as_aux_lemma =>
              have q1 := hide t1
              have q3 := hide t3
              have q4 := hide t4
              go_wp2
              go_roundw
              case rel => exact ⟨2, 2, rfl, hide (by omega), ⟨_, _, _, _, rfl, rfl, rfl, rfl, S1, S2, hide (S3.out.no (fun h => q1.out (hB.out.1 h).1)), hide (S4.out.no (fun h => q4.out (hA.out.1 h).2))⟩, X⟩
              case measure => simp [intOf]
            · as_aux_lemma =>
              have q1 := hide t1
              have q3 := hide t3
              have q4 := hide t4
              go_wp2
              go_roundw
              case rel => exact ⟨2, 2, rfl, hide (by omega), ⟨_, _, _, _, rfl, rfl, rfl, rfl, S1, S2, hide (S3.out.no (fun h => q1.out (hB.out.1 h).1)), hide (Sofar.yes _ _)⟩, X⟩
              case measure => simp [intOf]
            · as_aux_lemma =>
              have q1 := hide t1
              have q2 := hide t2
              go_wp2
              go_roundw
              case rel => exact ⟨2, 2, rfl, hide (by omega), ⟨_, _, _, _, rfl, rfl, rfl, rfl, S1, S2, hide (S3.out.no (fun h => q2.out (hB.out.1 h).2)), hide (Sofar.yes _ _)⟩, X⟩
              case measure => simp [intOf]
            · as_aux_lemma =>
              have q1 := hide t1
              have q2 := hide t2
              have q3 := hide t3
              go_wp2
              go_roundw
              case rel => exact ⟨2, 2, rfl, hide (by omega), ⟨_, _, _, _, rfl, rfl, rfl, rfl, S1, S2, hide (S3.out.no (fun h => q2.out (hB.out.1 h).2)), hide (S4.out.no (fun h => q3.out (hA.out.1 h).1))⟩, X⟩
              case measure => simp [intOf]
            · as_aux_lemma =>
              have q1 := hide t1
              have q2 := hide t2
              have q3 := hide t3
              have q4 := hide t4
              go_wp2
              go_roundw
              case rel => exact ⟨2, 2, rfl, hide (by omega), ⟨_, _, _, _, rfl, rfl, rfl, rfl, S1, S2, hide (S3.out.no (fun h => q2.out (hB.out.1 h).2)), hide (S4.out.no (fun h => q4.out (hA.out.1 h).2))⟩, X⟩
              case measure => simp [intOf]
            · as_aux_lemma =>
              have q1 := hide t1
              have q2 := hide t2
              have q3 := hide t3
              have q4 := hide t4
              go_wp2
              go_roundw
              case rel => exact ⟨2, 2, rfl, hide (by omega), ⟨_, _, _, _, rfl, rfl, rfl, rfl, S1, S2, hide (S3.out.no (fun h => q2.out (hB.out.1 h).2)), hide (Sofar.yes _ _)⟩, X⟩
              case measure => simp [intOf]
            · as_aux_lemma =>
              have q1 := hide t1
              have q2 := hide t2
              go_wp2
              go_roundw
              case rel => exact ⟨2, 2, rfl, hide (by omega), ⟨_, _, _, _, rfl, rfl, rfl, rfl, S1, S2, hide (Sofar.yes _ _), hide (Sofar.yes _ _)⟩, X⟩
              case measure => simp [intOf]
            · as_aux_lemma =>
              have q1 := hide t1
              have q2 := hide t2
              have q3 := hide t3
              go_wp2
              go_roundw
              case rel => exact ⟨2, 2, rfl, hide (by omega), ⟨_, _, _, _, rfl, rfl, rfl, rfl, S1, S2, hide (Sofar.yes _ _), hide (S4.out.no (fun h => q3.out (hA.out.1 h).1))⟩, X⟩
              case measure => simp [intOf]
            · as_aux_lemma =>
              have q1 := hide t1
              have q2 := hide t2
              have q3 := hide t3
              have q4 := hide t4
              go_wp2
              go_roundw
              case rel => exact ⟨2, 2, rfl, hide (by omega), ⟨_, _, _, _, rfl, rfl, rfl, rfl, S1, S2, hide (Sofar.yes _ _), hide (S4.out.no (fun h => q4.out (hA.out.1 h).2))⟩, X⟩
              case measure => simp [intOf]
            · as_aux_lemma =>
              have q1 := hide t1
              have q2 := hide t2
              have q3 := hide t3
              have q4 := hide t4
              go_wp2
              go_roundw
              case rel => exact ⟨2, 2, rfl, hide (by omega), ⟨_, _, _, _, rfl, rfl, rfl, rfl, S1, S2, hide (Sofar.yes _ _), hide (Sofar.yes _ _)⟩, X⟩
              case measure => simp [intOf]
        · clear hJK
          have hr := X.r8
          go_wp2
          go_roundw
          case rel => exact ⟨1, 2, rfl, hide (by omega), ⟨_, _, _, _, rfl, rfl, rfl, rfl, S1, S2, S3, S4⟩, X.tail⟩
          case measure => simp [intOf]
    · clear hIK
      have hr := X.r7
      replace X := X.alloc #[.int .i64 b.lo, .int .i64 b.hi] 3
      go_wp2
      have hsz := X.tail.1.size
      generalize wo.heap.size = is at *
      clear hr
      go_loopw [11, 12, 15, 16, 169] (fun v11 v12 v15 v16 v169 wi => ∃ (J : Int) (K : Nat), v169 = .int .i64 J ∧ Hid ((J = 0 ∧ K = 2) ∨ (J = 1 ∧ K = 3) ∨ (J = 2 ∧ K = 4)) ∧ (∃ lw hw be ab : Bool, v11 = .bool lw ∧ v12 = .bool hw ∧ v15 = .bool be ∧ v16 = .bool ab ∧ Hid (Sofar (Hit a b ml) K lw) ∧ Hid (Sofar (Hit a b mh) K hw) ∧ Hid (Sofar (HitB 1 a b ql) K be) ∧ Hid (Sofar (HitA 1 a b qh) K ab)) ∧
          Own w wi [(is, 3, #[.int .i64 b.lo, .int .i64 b.hi]), (bq + 1, 3, #[.int .i64 a.lo, .int .i64 a.hi]), (bq, 23, #[.int .i64 ql, .int .i64 qh]), (bp, 23, #[.int .i64 ml, .int .i64 mh]), (bd, 23, #[.int .i64 (a.lo - b.hi), .int .i64 (a.hi - b.lo)]), (bs, 23, #[.int .i64 (a.lo + b.lo), .int .i64 (a.hi + b.hi)]), (w.heap.size + 1, 23, #[.int .i64 b.lo, .int .i64 b.hi]), (w.heap.size, 23, #[.int .i64 a.lo, .int .i64 a.hi])]) (fun _ _ _ _ v _ => (2 - intOf v).toNat)
      case atStart => exact ⟨0, 2, rfl, hide (.inl ⟨rfl, rfl⟩), ⟨_, _, _, _, rfl, rfl, rfl, rfl, S1, S2, S3, S4⟩, X⟩
      case round =>
        clear X S1 S2 S3 S4
        obtain ⟨J, K, rfl, hJK, ⟨lw, hw, be, ab, rfl, rfl, rfl, rfl, S1, S2, S3, S4⟩, X⟩ := hrel
        rcases hJK.out with ⟨rfl, rfl⟩ | ⟨rfl, rfl⟩ | ⟨rfl, rfl⟩
        · clear hJK
          have hr := X.r8
          have wr1 := WR2.out
          obtain ⟨mb, mc⟩ := PB2.out
          go_wp2_with fail
          go_cut [11, 12] (fun v11 v12 wx => ∃ lw' hw' : Bool, v11 = .bool lw' ∧ v12 = .bool hw' ∧ Hid (Sofar (Hit a b ml) 3 lw') ∧ Hid (Sofar (Hit a b mh) 3 hw') ∧ Own w wx [(is, 3, #[.int .i64 b.lo, .int .i64 b.hi]), (bq + 1, 3, #[.int .i64 a.lo, .int .i64 a.hi]), (bq, 23, #[.int .i64 ql, .int .i64 qh]), (bp, 23, #[.int .i64 ml, .int .i64 mh]), (bd, 23, #[.int .i64 (a.lo - b.hi), .int .i64 (a.hi - b.lo)]), (bs, 23, #[.int .i64 (a.lo + b.lo), .int .i64 (a.hi + b.hi)]), (w.heap.size + 1, 23, #[.int .i64 b.lo, .int .i64 b.hi]), (w.heap.size, 23, #[.int .i64 a.lo, .int .i64 a.hi])])
          case first =>
            have O1 : lw = true ∨ (lw = false ∧ a.hi * b.lo = ml) ∨ (lw = false ∧ ¬ a.hi * b.lo = ml) := by cases lw <;> by_cases c : a.hi * b.lo = ml <;> simp [c]
            have O2 : hw = true ∨ (hw = false ∧ a.hi * b.lo = mh) ∨ (hw = false ∧ ¬ a.hi * b.lo = mh) := by cases hw <;> by_cases c : a.hi * b.lo = mh <;> simp [c]
            rcases O1 with rfl | ⟨rfl, e1⟩ | ⟨rfl, e1⟩ <;> rcases O2 with rfl | ⟨rfl, e2⟩ | ⟨rfl, e2⟩
            · as_aux_lemma =>
              go_quiet (fail)
              replace X := X.drewN nq
              go_wp2
              go_meet
              exact ⟨_, _, rfl, rfl, hide (Sofar.yes _ _), hide (Sofar.yes _ _), X⟩
            · as_aux_lemma =>
              have f2 : (a.hi * b.lo == mh) = true := by simp [e2]
              have q2 := hide e2
              clear e2
              go_quiet (fail)
              replace X := X.drewN nq
              go_wp2
              go_meet
              exact ⟨_, _, rfl, rfl, hide (Sofar.yes _ _), hide (Sofar.yes _ _), X⟩
            · as_aux_lemma =>
              have f2 : (a.hi * b.lo == mh) = false := by simp [e2]
              have q2 := hide e2
              clear e2
              go_quiet (fail)
              replace X := X.drewN nq
              go_wp2
              go_meet
              exact ⟨_, _, rfl, rfl, hide (Sofar.yes _ _), hide (S2.out.no q2.out), X⟩
            · as_aux_lemma =>
              have f1 : (a.hi * b.lo == ml) = true := by simp [e1]
              have q1 := hide e1
              clear e1
              go_quiet (fail)
              replace X := X.drewN nq
              go_wp2
              go_meet
              exact ⟨_, _, rfl, rfl, hide (Sofar.yes _ _), hide (Sofar.yes _ _), X⟩
            · as_aux_lemma =>
              have f1 : (a.hi * b.lo == ml) = true := by simp [e1]
              have q1 := hide e1
              clear e1
              have f2 : (a.hi * b.lo == mh) = true := by simp [e2]
              have q2 := hide e2
              clear e2
              go_quiet (fail)
              replace X := X.drewN nq
              go_wp2
              go_meet
              exact ⟨_, _, rfl, rfl, hide (Sofar.yes _ _), hide (Sofar.yes _ _), X⟩
            · as_aux_lemma =>
              have f1 : (a.hi * b.lo == ml) = true := by simp [e1]
              have q1 := hide e1
              clear e1
              have f2 : (a.hi * b.lo == mh) = false := by simp [e2]
              have q2 := hide e2
              clear e2
              go_quiet (fail)
              replace X := X.drewN nq
              go_wp2
              go_meet
              exact ⟨_, _, rfl, rfl, hide (Sofar.yes _ _), hide (S2.out.no q2.out), X⟩
            · as_aux_lemma =>
              have f1 : (a.hi * b.lo == ml) = false := by simp [e1]
              have q1 := hide e1
              clear e1
              go_quiet (fail)
              replace X := X.drewN nq
              go_wp2
              go_meet
              exact ⟨_, _, rfl, rfl, hide (S1.out.no q1.out), hide (Sofar.yes _ _), X⟩
            · as_aux_lemma =>
              have f1 : (a.hi * b.lo == ml) = false := by simp [e1]
              have q1 := hide e1
              clear e1
              have f2 : (a.hi * b.lo == mh) = true := by simp [e2]
              have q2 := hide e2
              clear e2
              go_quiet (fail)
              replace X := X.drewN nq
              go_wp2
              go_meet
              exact ⟨_, _, rfl, rfl, hide (S1.out.no q1.out), hide (Sofar.yes _ _), X⟩
            · as_aux_lemma =>
              have f1 : (a.hi * b.lo == ml) = false := by simp [e1]
              have q1 := hide e1
              clear e1
              have f2 : (a.hi * b.lo == mh) = false := by simp [e2]
              have q2 := hide e2
              clear e2
              go_quiet (fail)
              replace X := X.drewN nq
              go_wp2
              go_meet
              exact ⟨_, _, rfl, rfl, hide (S1.out.no q1.out), hide (S2.out.no q2.out), X⟩
          case rest =>
            clear X S1 S2 hr
            obtain ⟨lw', hw', rfl, rfl, S1, S2, X⟩ := hcut
            have hr := X.r8
            clear wr1 mb mc
            obtain ⟨qa0, qc0⟩ := HN00.out
            obtain ⟨qa1, qc1⟩ := HN01.out
            obtain ⟨qa2, qc2⟩ := HN02.out
            obtain ⟨qa3, qc3⟩ := HN03.out
            have hB := hide (show HitB 1 a b ql 2 ↔ (ql * b.lo ≤ a.hi ∧ a.hi < (ql + 1) * b.lo) by show ql * (1 * b.lo) ≤ 1 * a.hi ∧ 1 * a.hi < (ql + 1) * (1 * b.lo) ↔ _; rw [show 1 * b.lo = b.lo by omega, show 1 * a.hi = a.hi by omega])
            have hA := hide (show HitA 1 a b qh 2 ↔ (a.hi ≤ qh * b.lo ∧ (qh - 1) * b.lo < a.hi) by show 1 * a.hi ≤ qh * (1 * b.lo) ∧ (qh - 1) * (1 * b.lo) < 1 * a.hi ↔ _; rw [show 1 * b.lo = b.lo by omega, show 1 * a.hi = a.hi by omega])
            have OB : be = true ∨ (be = false ∧ ¬ ql * b.lo ≤ a.hi) ∨ (be = false ∧ ql * b.lo ≤ a.hi ∧ ¬ a.hi < (ql + 1) * b.lo) ∨ (be = false ∧ ql * b.lo ≤ a.hi ∧ a.hi < (ql + 1) * b.lo) := by cases be <;> by_cases c1 : ql * b.lo ≤ a.hi <;> by_cases c2 : a.hi < (ql + 1) * b.lo <;> simp [c1, c2]
            have OA : ab = true ∨ (ab = false ∧ ¬ a.hi ≤ qh * b.lo) ∨ (ab = false ∧ a.hi ≤ qh * b.lo ∧ ¬ (qh - 1) * b.lo < a.hi) ∨ (ab = false ∧ a.hi ≤ qh * b.lo ∧ (qh - 1) * b.lo < a.hi) := by cases ab <;> by_cases c1 : a.hi ≤ qh * b.lo <;> by_cases c2 : (qh - 1) * b.lo < a.hi <;> simp [c1, c2]
            rcases OB with rfl | ⟨rfl, t1⟩ | ⟨rfl, t1, t2⟩ | ⟨rfl, t1, t2⟩ <;> rcases OA with rfl | ⟨rfl, t3⟩ | ⟨rfl, t3, t4⟩ | ⟨rfl, t3, t4⟩
            · as_aux_lemma =>
              go_wp2
              go_roundw
              case rel => exact ⟨1, 3, rfl, hide (by omega), ⟨_, _, _, _, rfl, rfl, rfl, rfl, S1, S2, hide (Sofar.yes _ _), hide (Sofar.yes _ _)⟩, X⟩
              case measure => simp [intOf]
            · as_aux_lemma =>
              have q3 := hide t3
              go_wp2
              go_roundw
              case rel => exact ⟨1, 3, rfl, hide (by omega), ⟨_, _, _, _, rfl, rfl, rfl, rfl, S1, S2, hide (Sofar.yes _ _), hide (S4.out.no (fun h => q3.out (hA.out.1 h).1))⟩, X⟩
              case measure => simp [intOf]
            · as_aux_lemma =>
              have q3 := hide t3
              have q4 := hide t4
              go_wp2
              go_roundw
              case rel => exact ⟨1, 3, rfl, hide (by omega), ⟨_, _, _, _, rfl, rfl, rfl, rfl, S1, S2, hide (Sofar.yes _ _), hide (S4.out.no (fun h => q4.out (hA.out.1 h).2))⟩, X⟩
              case measure => simp [intOf]
            · as_aux_lemma =>
              have q3 := hide t3
              have q4 := hide t4
              go_wp2
              go_roundw
              case rel => exact ⟨1, 3, rfl, hide (by omega), ⟨_, _, _, _, rfl, rfl, rfl, rfl, S1, S2, hide (Sofar.yes _ _), hide (Sofar.yes _ _)⟩, X⟩
              case measure => simp [intOf]
            · as_aux_lemma =>
              have q1 := hide t1
              go_wp2
              go_roundw
              case rel => exact ⟨1, 3, rfl, hide (by omega), ⟨_, _, _, _, rfl, rfl, rfl, rfl, S1, S2, hide (S3.out.no (fun h => q1.out (hB.out.1 h).1)), hide (Sofar.yes _ _)⟩, X⟩
              case measure => simp [intOf]
            · as_aux_lemma =>
              have q1 := hide t1
              have q3 := hide t3
              go_wp2
              go_roundw
              case rel => exact ⟨1, 3, rfl, hide (by omega), ⟨_, _, _, _, rfl, rfl, rfl, rfl, S1, S2, hide (S3.out.no (fun h => q1.out (hB.out.1 h).1)), hide (S4.out.no (fun h => q3.out (hA.out.1 h).1))⟩, X⟩
              case measure => simp [intOf]
            · as_aux_lemma =>
              have q1 := hide t1
              have q3 := hide t3
              have q4 := hide t4
              go_wp2
              go_roundw
              case rel => exact ⟨1, 3, rfl, hide (by omega), ⟨_, _, _, _, rfl, rfl, rfl, rfl, S1, S2, hide (S3.out.no (fun h => q1.out (hB.out.1 h).1)), hide (S4.out.no (fun h => q4.out (hA.out.1 h).2))⟩, X⟩
              case measure => simp [intOf]
            · as_aux_lemma =>
              have q1 := hide t1
              have q3 := hide t3
              have q4 := hide t4
              go_wp2
              go_roundw
              case rel => exact ⟨1, 3, rfl, hide (by omega), ⟨_, _, _, _, rfl, rfl, rfl, rfl, S1, S2, hide (S3.out.no (fun h => q1.out (hB.out.1 h).1)), hide (Sofar.yes _ _)⟩, X⟩
              case measure => simp [intOf]
            · as_aux_lemma =>
              have q1 := hide t1
              have q2 := hide t2
              go_wp2
              go_roundw
              case rel => exact ⟨1, 3, rfl, hide (by omega), ⟨_, _, _, _, rfl, rfl, rfl, rfl, S1, S2, hide (S3.out.no (fun h => q2.out (hB.out.1 h).2)), hide (Sofar.yes _ _)⟩, X⟩
              case measure => simp [intOf]
            · as_aux_lemma =>
              have q1 := hide t1
              have q2 := hide t2
              have q3 := hide t3
              go_wp2
              go_roundw
              case rel => exact ⟨1, 3, rfl, hide (by omega), ⟨_, _, _, _, rfl, rfl, rfl, rfl, S1, S2, hide (S3.out.no (fun h => q2.out (hB.out.1 h).2)), hide (S4.out.no (fun h => q3.out (hA.out.1 h).1))⟩, X⟩
              case measure => simp [intOf]
            · as_aux_lemma =>
              have q1 := hide t1
              have q2 := hide t2
              have q3 := hide t3
              have q4 := hide t4
              go_wp2
              go_roundw
              case rel => exact ⟨1, 3, rfl, hide (by omega), ⟨_, _, _, _, rfl, rfl, rfl, rfl, S1, S2, hide (S3.out.no (fun h => q2.out (hB.out.1 h).2)), hide (S4.out.no (fun h => q4.out (hA.out.1 h).2))⟩, X⟩
              case measure => simp [intOf]
            · as_aux_lemma =>
              have q1 := hide t1
              have q2 := hide t2
              have q3 := hide t3
              have q4 := hide t4
              go_wp2
              go_roundw
              case rel => exact ⟨1, 3, rfl, hide (by omega), ⟨_, _, _, _, rfl, rfl, rfl, rfl, S1, S2, hide (S3.out.no (fun h => q2.out (hB.out.1 h).2)), hide (Sofar.yes _ _)⟩, X⟩
              case measure => simp [intOf]
            · as_aux_lemma =>
              have q1 := hide t1
              have q2 := hide t2
              go_wp2
              go_roundw
              case rel => exact ⟨1, 3, rfl, hide (by omega), ⟨_, _, _, _, rfl, rfl, rfl, rfl, S1, S2, hide (Sofar.yes _ _), hide (Sofar.yes _ _)⟩, X⟩
              case measure => simp [intOf]
            · as_aux_lemma =>
              have q1 := hide t1
              have q2 := hide t2
              have q3 := hide t3
              go_wp2
              go_roundw
              case rel => exact ⟨1, 3, rfl, hide (by omega), ⟨_, _, _, _, rfl, rfl, rfl, rfl, S1, S2, hide (Sofar.yes _ _), hide (S4.out.no (fun h => q3.out (hA.out.1 h).1))⟩, X⟩
              case measure => simp [intOf]
            · as_aux_lemma =>
              have q1 := hide t1
              have q2 := hide t2
              have q3 := hide t3
              have q4 := hide t4
              go_wp2
              go_roundw
              case rel => exact ⟨1, 3, rfl, hide (by omega), ⟨_, _, _, _, rfl, rfl, rfl, rfl, S1, S2, hide (Sofar.yes _ _), hide (S4.out.no (fun h => q4.out (hA.out.1 h).2))⟩, X⟩
              case measure => simp [intOf]
            · as_aux_lemma =>
              have q1 := hide t1
              have q2 := hide t2
              have q3 := hide t3
              have q4 := hide t4
              go_wp2
              go_roundw
              case rel => exact ⟨1, 3, rfl, hide (by omega), ⟨_, _, _, _, rfl, rfl, rfl, rfl, S1, S2, hide (Sofar.yes _ _), hide (Sofar.yes _ _)⟩, X⟩
              case measure => simp [intOf]
        · clear hJK
          have hr := X.r8
          have wr1 := WR3.out
          obtain ⟨mb, mc⟩ := PB3.out
          go_wp2_with fail
          go_cut [11, 12] (fun v11 v12 wx => ∃ lw' hw' : Bool, v11 = .bool lw' ∧ v12 = .bool hw' ∧ Hid (Sofar (Hit a b ml) 4 lw') ∧ Hid (Sofar (Hit a b mh) 4 hw') ∧ Own w wx [(is, 3, #[.int .i64 b.lo, .int .i64 b.hi]), (bq + 1, 3, #[.int .i64 a.lo, .int .i64 a.hi]), (bq, 23, #[.int .i64 ql, .int .i64 qh]), (bp, 23, #[.int .i64 ml, .int .i64 mh]), (bd, 23, #[.int .i64 (a.lo - b.hi), .int .i64 (a.hi - b.lo)]), (bs, 23, #[.int .i64 (a.lo + b.lo), .int .i64 (a.hi + b.hi)]), (w.heap.size + 1, 23, #[.int .i64 b.lo, .int .i64 b.hi]), (w.heap.size, 23, #[.int .i64 a.lo, .int .i64 a.hi])])
          case first =>
            have O1 : lw = true ∨ (lw = false ∧ a.hi * b.hi = ml) ∨ (lw = false ∧ ¬ a.hi * b.hi = ml) := by cases lw <;> by_cases c : a.hi * b.hi = ml <;> simp [c]
            have O2 : hw = true ∨ (hw = false ∧ a.hi * b.hi = mh) ∨ (hw = false ∧ ¬ a.hi * b.hi = mh) := by cases hw <;> by_cases c : a.hi * b.hi = mh <;> simp [c]
            rcases O1 with rfl | ⟨rfl, e1⟩ | ⟨rfl, e1⟩ <;> rcases O2 with rfl | ⟨rfl, e2⟩ | ⟨rfl, e2⟩
            · as_aux_lemma =>
              go_quiet (fail)
              replace X := X.drewN nq
              go_wp2
              go_meet
              exact ⟨_, _, rfl, rfl, hide (Sofar.yes _ _), hide (Sofar.yes _ _), X⟩
            · as_aux_lemma =>
              have f2 : (a.hi * b.hi == mh) = true := by simp [e2]
              have q2 := hide e2
              clear e2
              go_quiet (fail)
              replace X := X.drewN nq
              go_wp2
              go_meet
              exact ⟨_, _, rfl, rfl, hide (Sofar.yes _ _), hide (Sofar.yes _ _), X⟩
            · as_aux_lemma =>
              have f2 : (a.hi * b.hi == mh) = false := by simp [e2]
              have q2 := hide e2
              clear e2
              go_quiet (fail)
              replace X := X.drewN nq
              go_wp2
              go_meet
              exact ⟨_, _, rfl, rfl, hide (Sofar.yes _ _), hide (S2.out.no q2.out), X⟩
            · as_aux_lemma =>
              have f1 : (a.hi * b.hi == ml) = true := by simp [e1]
              have q1 := hide e1
              clear e1
              go_quiet (fail)
              replace X := X.drewN nq
              go_wp2
              go_meet
              exact ⟨_, _, rfl, rfl, hide (Sofar.yes _ _), hide (Sofar.yes _ _), X⟩
            · as_aux_lemma =>
              have f1 : (a.hi * b.hi == ml) = true := by simp [e1]
              have q1 := hide e1
              clear e1
              have f2 : (a.hi * b.hi == mh) = true := by simp [e2]
              have q2 := hide e2
              clear e2
              go_quiet (fail)
              replace X := X.drewN nq
              go_wp2
              go_meet
              exact ⟨_, _, rfl, rfl, hide (Sofar.yes _ _), hide (Sofar.yes _ _), X⟩
            · as_aux_lemma =>
              have f1 : (a.hi * b.hi == ml) = true := by simp [e1]
              have q1 := hide e1
              clear e1
              have f2 : (a.hi * b.hi == mh) = false := by simp [e2]
              have q2 := hide e2
              clear e2
              go_quiet (fail)
              replace X := X.drewN nq
              go_wp2
              go_meet
              exact ⟨_, _, rfl, rfl, hide (Sofar.yes _ _), hide (S2.out.no q2.out), X⟩
            · as_aux_lemma =>
              have f1 : (a.hi * b.hi == ml) = false := by simp [e1]
              have q1 := hide e1
              clear e1
              go_quiet (fail)
              replace X := X.drewN nq
              go_wp2
              go_meet
              exact ⟨_, _, rfl, rfl, hide (S1.out.no q1.out), hide (Sofar.yes _ _), X⟩
            · as_aux_lemma =>
              have f1 : (a.hi * b.hi == ml) = false := by simp [e1]
              have q1 := hide e1
              clear e1
              have f2 : (a.hi * b.hi == mh) = true := by simp [e2]
              have q2 := hide e2
              clear e2
              go_quiet (fail)
              replace X := X.drewN nq
              go_wp2
              go_meet
              exact ⟨_, _, rfl, rfl, hide (S1.out.no q1.out), hide (Sofar.yes _ _), X⟩
            · as_aux_lemma =>
              have f1 : (a.hi * b.hi == ml) = false := by simp [e1]
              have q1 := hide e1
              clear e1
              have f2 : (a.hi * b.hi == mh) = false := by simp [e2]
              have q2 := hide e2
              clear e2
              go_quiet (fail)
              replace X := X.drewN nq
              go_wp2
              go_meet
              exact ⟨_, _, rfl, rfl, hide (S1.out.no q1.out), hide (S2.out.no q2.out), X⟩
          case rest =>
            clear X S1 S2 hr
            obtain ⟨lw', hw', rfl, rfl, S1, S2, X⟩ := hcut
            have hr := X.r8
            clear wr1 mb mc
            obtain ⟨qa0, qc0⟩ := HN10.out
            obtain ⟨qa1, qc1⟩ := HN11.out
            obtain ⟨qa2, qc2⟩ := HN12.out
            obtain ⟨qa3, qc3⟩ := HN13.out
            have hB := hide (show HitB 1 a b ql 3 ↔ (ql * b.hi ≤ a.hi ∧ a.hi < (ql + 1) * b.hi) by show ql * (1 * b.hi) ≤ 1 * a.hi ∧ 1 * a.hi < (ql + 1) * (1 * b.hi) ↔ _; rw [show 1 * b.hi = b.hi by omega, show 1 * a.hi = a.hi by omega])
            have hA := hide (show HitA 1 a b qh 3 ↔ (a.hi ≤ qh * b.hi ∧ (qh - 1) * b.hi < a.hi) by show 1 * a.hi ≤ qh * (1 * b.hi) ∧ (qh - 1) * (1 * b.hi) < 1 * a.hi ↔ _; rw [show 1 * b.hi = b.hi by omega, show 1 * a.hi = a.hi by omega])
            have OB : be = true ∨ (be = false ∧ ¬ ql * b.hi ≤ a.hi) ∨ (be = false ∧ ql * b.hi ≤ a.hi ∧ ¬ a.hi < (ql + 1) * b.hi) ∨ (be = false ∧ ql * b.hi ≤ a.hi ∧ a.hi < (ql + 1) * b.hi) := by cases be <;> by_cases c1 : ql * b.hi ≤ a.hi <;> by_cases c2 : a.hi < (ql + 1) * b.hi <;> simp [c1, c2]
            have OA : ab = true ∨ (ab = false ∧ ¬ a.hi ≤ qh * b.hi) ∨ (ab = false ∧ a.hi ≤ qh * b.hi ∧ ¬ (qh - 1) * b.hi < a.hi) ∨ (ab = false ∧ a.hi ≤ qh * b.hi ∧ (qh - 1) * b.hi < a.hi) := by cases ab <;> by_cases c1 : a.hi ≤ qh * b.hi <;> by_cases c2 : (qh - 1) * b.hi < a.hi <;> simp [c1, c2]
            rcases OB with rfl | ⟨rfl, t1⟩ | ⟨rfl, t1, t2⟩ | ⟨rfl, t1, t2⟩ <;> rcases OA with rfl | ⟨rfl, t3⟩ | ⟨rfl, t3, t4⟩ | ⟨rfl, t3, t4⟩
            · as_aux_lemma =>
              go_wp2
              go_roundw
              case rel => exact ⟨2, 4, rfl, hide (by omega), ⟨_, _, _, _, rfl, rfl, rfl, rfl, S1, S2, hide (Sofar.yes _ _), hide (Sofar.yes _ _)⟩, X⟩
              case measure => simp [intOf]
            · as_aux_lemma =>
              have q3 := hide t3
              go_wp2
              go_roundw
              case rel => exact ⟨2, 4, rfl, hide (by omega), ⟨_, _, _, _, rfl, rfl, rfl, rfl, S1, S2, hide (Sofar.yes _ _), hide (S4.out.no (fun h => q3.out (hA.out.1 h).1))⟩, X⟩
              case measure => simp [intOf]
            · as_aux_lemma =>
              have q3 := hide t3
              have q4 := hide t4
              go_wp2
              go_roundw
              case rel => exact ⟨2, 4, rfl, hide (by omega), ⟨_, _, _, _, rfl, rfl, rfl, rfl, S1, S2, hide (Sofar.yes _ _), hide (S4.out.no (fun h => q4.out (hA.out.1 h).2))⟩, X⟩
              case measure => simp [intOf]
            · as_aux_lemma =>
              have q3 := hide t3
              have q4 := hide t4
              go_wp2
              go_roundw
              case rel => exact ⟨2, 4, rfl, hide (by omega), ⟨_, _, _, _, rfl, rfl, rfl, rfl, S1, S2, hide (Sofar.yes _ _), hide (Sofar.yes _ _)⟩, X⟩
              case measure => simp [intOf]
            · as_aux_lemma =>
              have q1 := hide t1
              go_wp2
              go_roundw
              case rel => exact ⟨2, 4, rfl, hide (by omega), ⟨_, _, _, _, rfl, rfl, rfl, rfl, S1, S2, hide (S3.out.no (fun h => q1.out (hB.out.1 h).1)), hide (Sofar.yes _ _)⟩, X⟩
              case measure => simp [intOf]
            · as_aux_lemma =>
              have q1 := hide t1
              have q3 := hide t3
              go_wp2
              go_roundw
              case rel => exact ⟨2, 4, rfl, hide (by omega), ⟨_, _, _, _, rfl, rfl, rfl, rfl, S1, S2, hide (S3.out.no (fun h => q1.out (hB.out.1 h).1)), hide (S4.out.no (fun h => q3.out (hA.out.1 h).1))⟩, X⟩
              case measure => simp [intOf]
            · as_aux_lemma =>
              have q1 := hide t1
              have q3 := hide t3
              have q4 := hide t4
              go_wp2
              go_roundw
              case rel => exact ⟨2, 4, rfl, hide (by omega), ⟨_, _, _, _, rfl, rfl, rfl, rfl, S1, S2, hide (S3.out.no (fun h => q1.out (hB.out.1 h).1)), hide (S4.out.no (fun h => q4.out (hA.out.1 h).2))⟩, X⟩
              case measure => simp [intOf]
            · as_aux_lemma =>
              have q1 := hide t1
              have q3 := hide t3
              have q4 := hide t4
              go_wp2
              go_roundw
              case rel => exact ⟨2, 4, rfl, hide (by omega), ⟨_, _, _, _, rfl, rfl, rfl, rfl, S1, S2, hide (S3.out.no (fun h => q1.out (hB.out.1 h).1)), hide (Sofar.yes _ _)⟩, X⟩
              case measure => simp [intOf]
            · as_aux_lemma =>
              have q1 := hide t1
              have q2 := hide t2
              go_wp2
              go_roundw
              case rel => exact ⟨2, 4, rfl, hide (by omega), ⟨_, _, _, _, rfl, rfl, rfl, rfl, S1, S2, hide (S3.out.no (fun h => q2.out (hB.out.1 h).2)), hide (Sofar.yes _ _)⟩, X⟩
              case measure => simp [intOf]
            · as_aux_lemma =>
              have q1 := hide t1
              have q2 := hide t2
              have q3 := hide t3
              go_wp2
              go_roundw
              case rel => exact ⟨2, 4, rfl, hide (by omega), ⟨_, _, _, _, rfl, rfl, rfl, rfl, S1, S2, hide (S3.out.no (fun h => q2.out (hB.out.1 h).2)), hide (S4.out.no (fun h => q3.out (hA.out.1 h).1))⟩, X⟩
              case measure => simp [intOf]
            · as_aux_lemma =>
              have q1 := hide t1
              have q2 := hide t2
              have q3 := hide t3
              have q4 := hide t4
              go_wp2
              go_roundw
              case rel => exact ⟨2, 4, rfl, hide (by omega), ⟨_, _, _, _, rfl, rfl, rfl, rfl, S1, S2, hide (S3.out.no (fun h => q2.out (hB.out.1 h).2)), hide (S4.out.no (fun h => q4.out (hA.out.1 h).2))⟩, X⟩
              case measure => simp [intOf]
            · as_aux_lemma =>
              have q1 := hide t1
              have q2 := hide t2
              have q3 := hide t3
              have q4 := hide t4
              go_wp2
              go_roundw
              case rel => exact ⟨2, 4, rfl, hide (by omega), ⟨_, _, _, _, rfl, rfl, rfl, rfl, S1, S2, hide (S3.out.no (fun h => q2.out (hB.out.1 h).2)), hide (Sofar.yes _ _)⟩, X⟩
              case measure => simp [intOf]
            · as_aux_lemma =>
              have q1 := hide t1
              have q2 := hide t2
              go_wp2
              go_roundw
              case rel => exact ⟨2, 4, rfl, hide (by omega), ⟨_, _, _, _, rfl, rfl, rfl, rfl, S1, S2, hide (Sofar.yes _ _), hide (Sofar.yes _ _)⟩, X⟩
              case measure => simp [intOf]
            · as_aux_lemma =>
              have q1 := hide t1
              have q2 := hide t2
              have q3 := hide t3
              go_wp2
              go_roundw
              case rel => exact ⟨2, 4, rfl, hide (by omega), ⟨_, _, _, _, rfl, rfl, rfl, rfl, S1, S2, hide (Sofar.yes _ _), hide (S4.out.no (fun h => q3.out (hA.out.1 h).1))⟩, X⟩
              case measure => simp [intOf]
            · as_aux_lemma =>
              have q1 := hide t1
              have q2 := hide t2
              have q3 := hide t3
              have q4 := hide t4
              go_wp2
              go_roundw
              case rel => exact ⟨2, 4, rfl, hide (by omega), ⟨_, _, _, _, rfl, rfl, rfl, rfl, S1, S2, hide (Sofar.yes _ _), hide (S4.out.no (fun h => q4.out (hA.out.1 h).2))⟩, X⟩
              case measure => simp [intOf]
            · as_aux_lemma =>
              have q1 := hide t1
              have q2 := hide t2
              have q3 := hide t3
              have q4 := hide t4
              go_wp2
              go_roundw
              case rel => exact ⟨2, 4, rfl, hide (by omega), ⟨_, _, _, _, rfl, rfl, rfl, rfl, S1, S2, hide (Sofar.yes _ _), hide (Sofar.yes _ _)⟩, X⟩
              case measure => simp [intOf]
        · clear hJK
          have hr := X.r8
          go_wp2
          go_roundw
          case rel => exact ⟨2, 4, rfl, hide (by omega), ⟨_, _, _, _, rfl, rfl, rfl, rfl, S1, S2, S3, S4⟩, X.tail⟩
          case measure => simp [intOf]
    · clear hIK
      obtain rfl : lw = true := S1.out.end_ SH.out.1
      obtain rfl : hw = true := S2.out.end_ SH.out.2
      obtain rfl : be = true := S3.out.end_ SQ.out.1
      obtain rfl : ab = true := S4.out.end_ SQ.out.2
      clear S1 S2 S3 S4
      have hr := X.r7
      rcases Int.lt_or_le a.lo 0 with r | r
      · go_wp2_with fail
        refine (A8n.out r _).mono ?_
        rintro e w9 ⟨rfl, hb⟩
        replace X := (X.to hb).alloc #[.int .i64 0, .int .i64 0] 23
        clear hb hr
        have hr := X.r8
        go_wp2
        go_ret
        exact ⟨rfl, X.1⟩
      · have R1 := isq_bd r
        have R2 := isqU_bd (n := a.lo) r (by omega)
        have R3 := isqU_bd (n := a.hi) (by omega) (by omega)
        have R5 := root_least r
        have R6 := root_least (n := a.hi) (by omega)
        have R7 : (isq a.lo + 1) * (isq a.lo + 1) ≤ 268468225 := by
          have := sq_le (a := isq a.lo + 1) (b := 16385) (by omega) (by omega)
          omega
        have R8 : 0 ≤ (isq a.lo + 1) * (isq a.lo + 1) := Int.mul_nonneg (by omega) (by omega)
        have R9 : 0 < isqU a.hi → 0 ≤ (isqU a.hi - 1) * (isqU a.hi - 1) := fun h => Int.mul_nonneg (by omega) (by omega)
        obtain ⟨s1, s2, s3⟩ := R1
        obtain ⟨_, _, _, s4, s5⟩ := R2
        obtain ⟨s6, s7, s8, s9, s10⟩ := R3
        have s11 := R5.1
        have s12 := R6.2
        clear R5 R6
        have C := fun w => A8p.out r w
        generalize isq a.lo = rl at *
        generalize isqU a.hi = rh at *
        rcases Int.lt_or_le 0 rh with hp | hp
        · have s13 := s12 hp
          have s14 := R9 hp
          clear s12 R9
          go_wp2_with fail
          refine (C _).mono ?_
          rintro e w9 ⟨rfl, hb⟩
          replace X := (X.to hb).alloc #[.int .i64 rl, .int .i64 rh] 23
          clear hb hr
          have hr := X.r8
          go_wp2
          go_ret
          exact ⟨rfl, X.1⟩
        · clear s12 R9
          go_wp2_with fail
          refine (C _).mono ?_
          rintro e w9 ⟨rfl, hb⟩
          replace X := (X.to hb).alloc #[.int .i64 rl, .int .i64 rh] 23
          clear hb hr
          have hr := X.r8
          go_wp2
          go_ret
          exact ⟨rfl, X.1⟩
end Go.Proofs.YtgflgnbbkhikcaaDoor
