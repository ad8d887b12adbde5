/- SpanPoints: ways of the walk. -/
import Derived.Test.YtgflgnbbkhikcaaDoorSpPointsL
namespace Go.Proofs.YtgflgnbbkhikcaaDoor
open Go.RowKit

set_option maxRecDepth 100000 in
set_option maxHeartbeats 8000000 in
theorem points_zero_rpos (a b : Sp) (i j k d : Int) (w : World) (i0 : 0 ≤ i) (i1 : i ≤ 4294967295) (j0 : 0 ≤ j) (j1 : j ≤ 4294967295) (g0 : a.lo ≤ a.hi) (g1 : b.lo ≤ b.hi) (g2 : -268435456 ≤ a.lo) (g3 : a.hi ≤ 268435456) (g4 : -268435456 ≤ b.lo) (g5 : b.hi ≤ 268435456) (g6 : -1048576 ≤ k) (g7 : k ≤ 1048576) (g8 : 1 ≤ d) (g9 : d ≤ 1048576) (z : hasB b 0 = true) (r : 0 ≤ a.lo) :
    Calls Tryd.prog 5 #[a.val, b.val, .int .u32 i, .int .u32 j, .int .i64 k, .int .i64 d] w fun e w' => e = .returned (.bool true) ∧ Below w.heap.size w w' := by
  have X := ((Own.start w).alloc #[.int .i64 a.lo, .int .i64 a.hi] 23).alloc #[.int .i64 b.lo, .int .i64 b.hi] 23
  simp only [World.size_alloc] at X
  have ha : vB a = true := vB_iff.2 (by omega)
  have hb' : vB b = true := vB_iff.2 (by omega)
  have AS := add_small (a := a) (b := b) (B := 268435456) (by omega) g2 g0 g3 g4 g1 g5
  have MS := m_small g2 g0 g3 g4 g1 g5
  have TS := tim_small g2 g0 g3 g6 g7 g8 g9 ha
  have TB := tim_bd g2 g0 g3 g6 g7 g8 g9
  have A1 := pick_any a i
  have A2 := pick_any b j
  have A3 := fun w => calls_se (add_any a b w) ((op2_yes ha hb' 0 _).2.trans AS.1.2) ((op2_yes ha hb' _ Sp.zero).1.trans AS.1.1)
  have A4 := fun w => calls_se (sub_any a b w) ((op2_yes ha hb' 0 _).2.trans AS.2.2) ((op2_yes ha hb' _ Sp.zero).1.trans AS.2.1)
  have A5 := fun w => calls_se (mul_any a b w) (t := ⟨m4 a b, M4 a b⟩) (er' := 0) ((op2_yes ha hb' 0 _).2.trans MS.2) ((op2_yes ha hb' _ Sp.zero).1.trans MS.1)
  have A6 := fun w => calls_se (tim_any a k d w (fun _ _ => ⟨⟨by show d ≠ 0; omega, .inl (by show (a.lo * k).natAbs < _; omega), by show _ ≤ a.lo; omega, by show a.lo ≤ _; omega, by show _ ≤ k; omega, by show k ≤ _; omega, by show _ ≤ d; omega, by show d ≤ _; omega⟩, ⟨by show d ≠ 0; omega, .inl (by show (a.hi * k).natAbs < _; omega), by show _ ≤ a.hi; omega, by show a.hi ≤ _; omega, by show _ ≤ k; omega, by show k ≤ _; omega, by show _ ≤ d; omega, by show d ≤ _; omega⟩⟩)) TS.2 TS.1
  have pa := pk_in g0 i
  have pb := pk_in g1 j
  have H1 := has_any ⟨a.lo + b.lo, a.hi + b.hi⟩ (pk a i + pk b j)
  have H2 := has_any ⟨a.lo - b.hi, a.hi - b.lo⟩ (pk a i - pk b j)
  have H3 := has_any ⟨m4 a b, M4 a b⟩ (pk a i * pk b j)
  have H4 := has_any b 0
  rw [show hasB ⟨a.lo + b.lo, a.hi + b.hi⟩ (pk a i + pk b j) = true from hasB_iff.2 ⟨by show a.lo + b.lo ≤ _; omega, by show _ ≤ a.hi + b.hi; omega⟩] at H1
  rw [show hasB ⟨a.lo - b.hi, a.hi - b.lo⟩ (pk a i - pk b j) = true from hasB_iff.2 ⟨by show a.lo - b.hi ≤ _; omega, by show _ ≤ a.hi - b.lo; omega⟩] at H2
  rw [show hasB ⟨m4 a b, M4 a b⟩ (pk a i * pk b j) = true from hasB_iff.2 (mul_in pa.1 pa.2 pb.1 pb.2)] at H3
  have TI := tim_in (a := a) (m := pk a i) (k := k) (d := d) (by omega) pa.1 pa.2
  have MB := mul_bdB (x := pk a i) (y := pk b j) (A := 268435456) (B := 268435456) (by omega) (by omega) (by omega) (by omega) (by omega)
  have MK := mul_bdB (x := pk a i) (y := k) (A := 268435456) (B := 1048576) (by omega) (by omega) (by omega) (by omega) (by omega)
  obtain ⟨_, tb1, tb2, tb3, tb4, tb5, tb6, tb7⟩ := TB

  have A7 := fun w => calls_se (div_any a b w) (t := ⟨0, 0⟩) (er' := 16) ((op2_yes ha hb' 0 _).2.trans (div_zero (hasB_iff.1 z)).2) ((op2_yes ha hb' _ Sp.zero).1.trans (div_zero (hasB_iff.1 z)).1)
  rw [z] at H4
  have z' := hide z
  clear z

  have A8 := fun w => calls_se (Root_any a w) (roo_yes ha r).2 (roo_yes ha r).1
  have R1 := isq_bd r
  have R2 := isqU_bd (n := a.lo) r (by omega)
  have R3 := isqU_bd (n := a.hi) (by omega) (by omega)
  have R4 := sq_le (a := isqU a.hi) (b := 16384) R3.1 R3.2.1
  have R5 : 0 ≤ isq a.lo * isq a.lo := Int.mul_nonneg R1.1 R1.1
  obtain ⟨s1, s2, s3⟩ := R1
  obtain ⟨_, _, _, s4, s5⟩ := R2
  obtain ⟨s6, s7, s8, s9, s10⟩ := R3

  obtain ⟨pa1, pa2⟩ := pa
  obtain ⟨pb1, pb2⟩ := pb
  obtain ⟨mb1, mb2⟩ := MB
  obtain ⟨mk1, mk2⟩ := MK
  obtain ⟨ti1, ti2⟩ := TI

  replace A1 : ∀ w, _ := fun w => A1 w g0 g2 g3 i0 i1
  replace A2 : ∀ w, _ := fun w => A2 w g1 g4 g5 j0 j1
  clear AS MS TS ha hb'
  generalize pk a i = m at *
  generalize pk b j = n at *
  generalize timLo a k d = tl at *
  generalize timHi a k d = th at *
  generalize m4 a b = ml at *
  generalize M4 a b = mh at *

  generalize isq a.lo = rl at *
  generalize isqU a.hi = rh at *
  have s11 : m ≤ rh * rh := by omega
  have s12 : rl * rl ≤ m := by omega

  go_enter Tryd.func5, Tryd.ntmps5
  have hr := X.r2
  go_wp2_with fail
  refine (awake_any _).mono ?_
  rintro e w0 ⟨rfl, hb⟩
  replace X := X.to hb
  clear hb hr
  have hr := X.r2
  go_wp2_with fail
  have HX := hide X
  clear X
  go_region_held3 (fun w' => w'.cell? ⟨w.heap.size, 0, none⟩ = some (.int .i64 a.lo) ∧ w'.cell? ⟨w.heap.size, 1, none⟩ = some (.int .i64 a.hi) ∧ w'.cell? ⟨w.heap.size + 1, 0, none⟩ = some (.int .i64 b.lo) ∧ w'.cell? ⟨w.heap.size + 1, 1, none⟩ = some (.int .i64 b.hi)) (go_keep) (first | (go_at_call 21; ((with_reducible refine (A1 _).mono ?_); rintro e w' ⟨rfl, hb1⟩); have hk1 := keeps hb1) | (go_at_call 21; ((with_reducible refine (A2 _).mono ?_); rintro e w' ⟨rfl, hb2⟩); have hk2 := keeps hb2))
  have X := (HX.out.drew.to hb1).to hb2
  clear hk1 hk2 hb1 hb2 hr HX
  have hr := X.r2
  go_wp2_with fail
  refine (A3 _).mono ?_
  rintro e w1 ⟨rfl, hb⟩
  replace X := (X.to hb).alloc #[.int .i64 (a.lo + b.lo), .int .i64 (a.hi + b.hi)] 23
  clear hb hr
  have hr := X.r3
  go_wp2_with fail
  refine (A4 _).mono ?_
  rintro e w2 ⟨rfl, hb⟩
  replace X := (X.to hb).alloc #[.int .i64 (a.lo - b.hi), .int .i64 (a.hi - b.lo)] 23
  clear hb hr
  have hr := X.r4
  go_wp2_with fail
  refine (A5 _).mono ?_
  rintro e w3 ⟨rfl, hb⟩
  replace X := (X.to hb).alloc #[.int .i64 ml, .int .i64 mh] 23
  clear hb hr
  have hr := X.r5
  go_wp2_with fail
  refine (A6 _).mono ?_
  rintro e w4 ⟨rfl, hb⟩
  replace X := (X.to hb).alloc #[.int .i64 tl, .int .i64 th] 23
  clear hb hr
  have hr := X.r6
  go_wp2_with fail
  refine (H1 _).mono ?_
  rintro e w5 ⟨rfl, hb⟩
  replace X := X.to hb
  clear hb hr
  have hr := X.r6
  go_wp2_with fail
  refine (H2 _).mono ?_
  rintro e w6 ⟨rfl, hb⟩
  replace X := X.to hb
  clear hb hr
  have hr := X.r6
  go_wp2_with fail
  refine (H3 _).mono ?_
  rintro e w7 ⟨rfl, hb⟩
  replace X := X.to hb
  clear hb hr
  have hr := X.r6
  go_wp2_with fail
  refine (A7 _).mono ?_
  rintro e w8 ⟨rfl, hb⟩
  replace X := (X.to hb).alloc #[.int .i64 0, .int .i64 0] 23
  clear hb hr
  have hr := X.r7
  go_wp2_with fail
  refine (H4 _).mono ?_
  rintro e w9 ⟨rfl, hb⟩
  replace X := X.to hb
  clear hb hr
  have hr := X.r7
  go_wp2_with fail
  refine (A8 _).mono ?_
  rintro e w10 ⟨rfl, hb⟩
  replace X := (X.to hb).alloc #[.int .i64 rl, .int .i64 rh] 23
  clear hb hr
  have hr := X.r8
  go_wp2
  go_ret
  exact ⟨rfl, by have HX := X.1; have hz := HX.size; go_grown⟩

end Go.Proofs.YtgflgnbbkhikcaaDoor
