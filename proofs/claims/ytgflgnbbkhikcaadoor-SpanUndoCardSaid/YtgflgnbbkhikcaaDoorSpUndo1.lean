/- SpanUndo: sums and products do not depend on the order, what is undone is inside, and a product with a sum is inside of the sum of the products: for all spans the law returns true. -/
import Derived.Test.YtgflgnbbkhikcaaDoorSpAwake
import Derived.Test.YtgflgnbbkhikcaaDoorSpUndoP
import Derived.Test.YtgflgnbbkhikcaaDoorOwn4
namespace Go.Proofs.YtgflgnbbkhikcaaDoor
open Go.RowKit


set_option maxRecDepth 100000 in
set_option maxHeartbeats 16000000 in
theorem undo_i5_n4 (a b c : Sp) (w : World) (ha : vB a = true) (hb : vB b = true) (hc : vB c = true) (ex : vB ⟨a.lo + b.lo, a.hi + b.hi⟩ = true) (e2 : resE (a.lo + b.lo) (a.hi + b.hi) = 0) (e3 : resS (a.lo + b.lo) (a.hi + b.hi) = ⟨a.lo + b.lo, a.hi + b.hi⟩)
    (i0 : resE (a.lo + b.lo - b.hi) (a.hi + b.hi - b.lo) = 5) (i1 : resS (a.lo + b.lo - b.hi) (a.hi + b.hi - b.lo) = ⟨0, 0⟩) (j0 : mE c ⟨a.lo + b.lo, a.hi + b.hi⟩ = 0) (j1 : mS c ⟨a.lo + b.lo, a.hi + b.hi⟩ = ⟨m4 c ⟨a.lo + b.lo, a.hi + b.hi⟩, M4 c ⟨a.lo + b.lo, a.hi + b.hi⟩⟩) (k0 : mE c a = 0) (k1 : mS c a = ⟨m4 c a, M4 c a⟩) (k2 : vB ⟨m4 c a, M4 c a⟩ = true) (l0 : mE c b = 0) (l1 : mS c b = ⟨m4 c b, M4 c b⟩) (l2 : vB ⟨m4 c b, M4 c b⟩ = true) (r0 : resE (m4 c a + m4 c b) (M4 c a + M4 c b) = 5) (r1 : resS (m4 c a + m4 c b) (M4 c a + M4 c b) = ⟨0, 0⟩) :
    Calls Tryd.prog 7 #[a.val, b.val, c.val] w fun e w' => e = .returned (.bool true) ∧ Below w.heap.size w w' := by
  have X := ((((Own.start w).alloc #[.int .i64 a.lo, .int .i64 a.hi] 23).alloc #[.int .i64 b.lo, .int .i64 b.hi] 23).alloc #[.int .i64 c.lo, .int .i64 c.hi] 23)
  simp only [World.size_alloc] at X
  have V1 := rvalid_any a
  have V2 := rvalid_any b
  have V3 := rvalid_any c
  rw [ha] at V1
  rw [hb] at V2
  rw [hc] at V3
  have A1 := fun w => calls_se (add_any a b w) (t := ⟨a.lo + b.lo, a.hi + b.hi⟩) (er' := 0) ((op2_yes ha hb 0 _).2.trans e3) ((op2_yes ha hb _ Sp.zero).1.trans e2)
  have A2 := fun w => calls_se (add_any b a w) (t := ⟨a.lo + b.lo, a.hi + b.hi⟩) (er' := 0) ((op2_yes hb ha 0 _).2.trans (by rw [Int.add_comm b.lo, Int.add_comm b.hi]; exact e3)) ((op2_yes hb ha _ Sp.zero).1.trans (by rw [Int.add_comm b.lo, Int.add_comm b.hi]; exact e2))
  have B1 := fun w => calls_se (sub_any ⟨a.lo + b.lo, a.hi + b.hi⟩ b w) (t := ⟨0, 0⟩) (er' := 5) ((op2_yes ex hb 0 _).2.trans i1) ((op2_yes ex hb _ Sp.zero).1.trans i0)

  have J1 := fun w => calls_se (mul_any c ⟨a.lo + b.lo, a.hi + b.hi⟩ w) (t := ⟨m4 c ⟨a.lo + b.lo, a.hi + b.hi⟩, M4 c ⟨a.lo + b.lo, a.hi + b.hi⟩⟩) (er' := 0) ((op2_yes hc ex 0 _).2.trans j1) ((op2_yes hc ex _ Sp.zero).1.trans j0)
  have N1 := fun w => calls_se (mul_any c a w) (t := ⟨m4 c a, M4 c a⟩) (er' := 0) ((op2_yes hc ha 0 _).2.trans k1) ((op2_yes hc ha _ Sp.zero).1.trans k0)
  have O1 := fun w => calls_se (mul_any c b w) (t := ⟨m4 c b, M4 c b⟩) (er' := 0) ((op2_yes hc hb 0 _).2.trans l1) ((op2_yes hc hb _ Sp.zero).1.trans l0)
  have S1 := fun w => calls_se (add_any ⟨m4 c a, M4 c a⟩ ⟨m4 c b, M4 c b⟩ w) (t := ⟨0, 0⟩) (er' := 5) ((op2_yes k2 l2 0 _).2.trans r1) ((op2_yes k2 l2 _ Sp.zero).1.trans r0)
  obtain ⟨m, hm⟩ : ∃ m : Sp, m = ⟨m4 c ⟨a.lo + b.lo, a.hi + b.hi⟩, M4 c ⟨a.lo + b.lo, a.hi + b.hi⟩⟩ := ⟨_, rfl⟩
  rw [← hm] at J1
  clear hm
  obtain ⟨x, hx⟩ : ∃ x : Sp, x = ⟨a.lo + b.lo, a.hi + b.hi⟩ := ⟨_, rfl⟩
  clear ex e2 e3 i0 i1 j0 j1 k0 k1 l0 l1 k2 l2 r0 r1
  rw [← hx] at A1 A2 B1 J1
  clear hx
  rcases m_cases a b with ⟨g0, g1, g2⟩ | ⟨g0, g1⟩
  · have G := fun w => calls_se (mul_any a b w) (t := ⟨m4 a b, M4 a b⟩) (er' := 0) ((op2_yes ha hb 0 _).2.trans g1) ((op2_yes ha hb _ Sp.zero).1.trans g0)
    have G2 := fun w => calls_se (mul_any b a w) (t := ⟨m4 a b, M4 a b⟩) (er' := 0) ((op2_yes hb ha 0 _).2.trans ((m_comm b a).2.trans g1)) ((op2_yes hb ha _ Sp.zero).1.trans ((m_comm b a).1.trans g0))
    have K1 := has_any b 0
    rcases Bool.eq_false_or_eq_true (hasB b 0) with h0 | h0
    · rw [h0] at K1
      clear g0 g1 g2 h0 ha hb hc
      go_enter Tryd.func7, Tryd.ntmps7
      have hr := X.r3
      go_wp2_with fail
      refine (awake_any _).mono ?_
      rintro e w0 ⟨rfl, hb⟩
      replace X := X.to hb
      clear hb hr
      have hr := X.r3
      go_wp2_with fail
      refine (V1 _).mono ?_
      rintro e w1 ⟨rfl, hb⟩
      replace X := X.to hb
      clear hb hr
      have hr := X.r3
      go_wp2_with fail
      refine (V2 _).mono ?_
      rintro e w2 ⟨rfl, hb⟩
      replace X := X.to hb
      clear hb hr
      have hr := X.r3
      go_wp2_with fail
      refine (V3 _).mono ?_
      rintro e w3 ⟨rfl, hb⟩
      replace X := X.to hb
      clear hb hr
      have hr := X.r3
      go_wp2_with fail
      refine (A1 _).mono ?_
      rintro e w4 ⟨rfl, hb⟩
      replace X := (X.to hb).alloc #[.int .i64 x.lo, .int .i64 x.hi] 23
      clear hb hr
      have hr := X.r4
      go_wp2_with fail
      refine (A2 _).mono ?_
      rintro e w5 ⟨rfl, hb⟩
      replace X := (X.to hb).alloc #[.int .i64 x.lo, .int .i64 x.hi] 23
      clear hb hr
      have hr := X.r5
      go_wp2_with fail
      refine (G _).mono ?_
      rintro e w6 ⟨rfl, hb⟩
      replace X := (X.to hb).alloc #[.int .i64 (m4 a b), .int .i64 (M4 a b)] 23
      clear hb hr
      have hr := X.r6
      go_wp2_with fail
      refine (G2 _).mono ?_
      rintro e w7 ⟨rfl, hb⟩
      replace X := (X.to hb).alloc #[.int .i64 (m4 a b), .int .i64 (M4 a b)] 23
      clear hb hr
      have hr := X.r7
      go_wp2_with fail
      refine (B1 _).mono ?_
      rintro e w8 ⟨rfl, hb⟩
      replace X := (X.to hb).alloc #[.int .i64 0, .int .i64 0] 23
      clear hb hr
      have hr := X.r8
      go_wp2_with fail
      refine (J1 _).mono ?_
      rintro e w9 ⟨rfl, hb⟩
      replace X := (X.to hb).alloc #[.int .i64 m.lo, .int .i64 m.hi] 23
      clear hb hr
      have hr := X.r9
      go_wp2_with fail
      refine (N1 _).mono ?_
      rintro e w10 ⟨rfl, hb⟩
      replace X := (X.to hb).alloc #[.int .i64 (m4 c a), .int .i64 (M4 c a)] 23
      clear hb hr
      have hr := X.r10
      go_wp2_with fail
      refine (O1 _).mono ?_
      rintro e w11 ⟨rfl, hb⟩
      replace X := (X.to hb).alloc #[.int .i64 (m4 c b), .int .i64 (M4 c b)] 23
      clear hb hr
      have hr := X.r11
      go_wp2_with fail
      refine (S1 _).mono ?_
      rintro e w12 ⟨rfl, hb⟩
      replace X := (X.to hb).alloc #[.int .i64 0, .int .i64 0] 23
      clear hb hr
      have hr := X.r12
      go_wp2_with fail
      refine (K1 _).mono ?_
      rintro e w13 ⟨rfl, hb⟩
      replace X := X.to hb
      clear hb hr
      have hr := X.r12
      go_wp2
      go_ret
      exact ⟨rfl, by have HX := X.1; have hz := HX.size; go_grown⟩
    · rw [h0] at K1
      have DC := div_cases g2 hb h0
      rcases DC.1 with d0 | d0
      · have K2 := fun w => calls_se (div_any ⟨m4 a b, M4 a b⟩ b w) (t := divV ⟨m4 a b, M4 a b⟩ b) (er' := 0) (op2_yes g2 hb 0 _).2 ((op2_yes g2 hb _ Sp.zero).1.trans d0)
        have K3 := inside_any a (divV ⟨m4 a b, M4 a b⟩ b)
        rw [div_undo hb h0 g2 d0] at K3
        generalize divV ⟨m4 a b, M4 a b⟩ b = dv at *
        clear g0 g1 g2 h0 d0 DC ha hb hc
        go_enter Tryd.func7, Tryd.ntmps7
        have hr := X.r3
        go_wp2_with fail
        refine (awake_any _).mono ?_
        rintro e w0 ⟨rfl, hb⟩
        replace X := X.to hb
        clear hb hr
        have hr := X.r3
        go_wp2_with fail
        refine (V1 _).mono ?_
        rintro e w1 ⟨rfl, hb⟩
        replace X := X.to hb
        clear hb hr
        have hr := X.r3
        go_wp2_with fail
        refine (V2 _).mono ?_
        rintro e w2 ⟨rfl, hb⟩
        replace X := X.to hb
        clear hb hr
        have hr := X.r3
        go_wp2_with fail
        refine (V3 _).mono ?_
        rintro e w3 ⟨rfl, hb⟩
        replace X := X.to hb
        clear hb hr
        have hr := X.r3
        go_wp2_with fail
        refine (A1 _).mono ?_
        rintro e w4 ⟨rfl, hb⟩
        replace X := (X.to hb).alloc #[.int .i64 x.lo, .int .i64 x.hi] 23
        clear hb hr
        have hr := X.r4
        go_wp2_with fail
        refine (A2 _).mono ?_
        rintro e w5 ⟨rfl, hb⟩
        replace X := (X.to hb).alloc #[.int .i64 x.lo, .int .i64 x.hi] 23
        clear hb hr
        have hr := X.r5
        go_wp2_with fail
        refine (G _).mono ?_
        rintro e w6 ⟨rfl, hb⟩
        replace X := (X.to hb).alloc #[.int .i64 (m4 a b), .int .i64 (M4 a b)] 23
        clear hb hr
        have hr := X.r6
        go_wp2_with fail
        refine (G2 _).mono ?_
        rintro e w7 ⟨rfl, hb⟩
        replace X := (X.to hb).alloc #[.int .i64 (m4 a b), .int .i64 (M4 a b)] 23
        clear hb hr
        have hr := X.r7
        go_wp2_with fail
        refine (B1 _).mono ?_
        rintro e w8 ⟨rfl, hb⟩
        replace X := (X.to hb).alloc #[.int .i64 0, .int .i64 0] 23
        clear hb hr
        have hr := X.r8
        go_wp2_with fail
        refine (J1 _).mono ?_
        rintro e w9 ⟨rfl, hb⟩
        replace X := (X.to hb).alloc #[.int .i64 m.lo, .int .i64 m.hi] 23
        clear hb hr
        have hr := X.r9
        go_wp2_with fail
        refine (N1 _).mono ?_
        rintro e w10 ⟨rfl, hb⟩
        replace X := (X.to hb).alloc #[.int .i64 (m4 c a), .int .i64 (M4 c a)] 23
        clear hb hr
        have hr := X.r10
        go_wp2_with fail
        refine (O1 _).mono ?_
        rintro e w11 ⟨rfl, hb⟩
        replace X := (X.to hb).alloc #[.int .i64 (m4 c b), .int .i64 (M4 c b)] 23
        clear hb hr
        have hr := X.r11
        go_wp2_with fail
        refine (S1 _).mono ?_
        rintro e w12 ⟨rfl, hb⟩
        replace X := (X.to hb).alloc #[.int .i64 0, .int .i64 0] 23
        clear hb hr
        have hr := X.r12
        go_wp2_with fail
        refine (K1 _).mono ?_
        rintro e w13 ⟨rfl, hb⟩
        replace X := X.to hb
        clear hb hr
        have hr := X.r12
        go_wp2_with fail
        refine (K2 _).mono ?_
        rintro e w14 ⟨rfl, hb⟩
        replace X := (X.to hb).alloc #[.int .i64 dv.lo, .int .i64 dv.hi] 23
        clear hb hr
        have hr := X.r13
        go_wp2_with fail
        refine (K3 _).mono ?_
        rintro e w15 ⟨rfl, hb⟩
        replace X := X.to hb
        clear hb hr
        have hr := X.r13
        go_wp2
        go_ret
        exact ⟨rfl, by have HX := X.1; have hz := HX.size; go_grown⟩
      · have K2 := fun w => calls_se (div_any ⟨m4 a b, M4 a b⟩ b w) (t := divV ⟨m4 a b, M4 a b⟩ b) (er' := 5) (op2_yes g2 hb 0 _).2 ((op2_yes g2 hb _ Sp.zero).1.trans d0)
        generalize divV ⟨m4 a b, M4 a b⟩ b = dv at *
        clear g0 g1 g2 h0 d0 DC ha hb hc
        go_enter Tryd.func7, Tryd.ntmps7
        have hr := X.r3
        go_wp2_with fail
        refine (awake_any _).mono ?_
        rintro e w0 ⟨rfl, hb⟩
        replace X := X.to hb
        clear hb hr
        have hr := X.r3
        go_wp2_with fail
        refine (V1 _).mono ?_
        rintro e w1 ⟨rfl, hb⟩
        replace X := X.to hb
        clear hb hr
        have hr := X.r3
        go_wp2_with fail
        refine (V2 _).mono ?_
        rintro e w2 ⟨rfl, hb⟩
        replace X := X.to hb
        clear hb hr
        have hr := X.r3
        go_wp2_with fail
        refine (V3 _).mono ?_
        rintro e w3 ⟨rfl, hb⟩
        replace X := X.to hb
        clear hb hr
        have hr := X.r3
        go_wp2_with fail
        refine (A1 _).mono ?_
        rintro e w4 ⟨rfl, hb⟩
        replace X := (X.to hb).alloc #[.int .i64 x.lo, .int .i64 x.hi] 23
        clear hb hr
        have hr := X.r4
        go_wp2_with fail
        refine (A2 _).mono ?_
        rintro e w5 ⟨rfl, hb⟩
        replace X := (X.to hb).alloc #[.int .i64 x.lo, .int .i64 x.hi] 23
        clear hb hr
        have hr := X.r5
        go_wp2_with fail
        refine (G _).mono ?_
        rintro e w6 ⟨rfl, hb⟩
        replace X := (X.to hb).alloc #[.int .i64 (m4 a b), .int .i64 (M4 a b)] 23
        clear hb hr
        have hr := X.r6
        go_wp2_with fail
        refine (G2 _).mono ?_
        rintro e w7 ⟨rfl, hb⟩
        replace X := (X.to hb).alloc #[.int .i64 (m4 a b), .int .i64 (M4 a b)] 23
        clear hb hr
        have hr := X.r7
        go_wp2_with fail
        refine (B1 _).mono ?_
        rintro e w8 ⟨rfl, hb⟩
        replace X := (X.to hb).alloc #[.int .i64 0, .int .i64 0] 23
        clear hb hr
        have hr := X.r8
        go_wp2_with fail
        refine (J1 _).mono ?_
        rintro e w9 ⟨rfl, hb⟩
        replace X := (X.to hb).alloc #[.int .i64 m.lo, .int .i64 m.hi] 23
        clear hb hr
        have hr := X.r9
        go_wp2_with fail
        refine (N1 _).mono ?_
        rintro e w10 ⟨rfl, hb⟩
        replace X := (X.to hb).alloc #[.int .i64 (m4 c a), .int .i64 (M4 c a)] 23
        clear hb hr
        have hr := X.r10
        go_wp2_with fail
        refine (O1 _).mono ?_
        rintro e w11 ⟨rfl, hb⟩
        replace X := (X.to hb).alloc #[.int .i64 (m4 c b), .int .i64 (M4 c b)] 23
        clear hb hr
        have hr := X.r11
        go_wp2_with fail
        refine (S1 _).mono ?_
        rintro e w12 ⟨rfl, hb⟩
        replace X := (X.to hb).alloc #[.int .i64 0, .int .i64 0] 23
        clear hb hr
        have hr := X.r12
        go_wp2_with fail
        refine (K1 _).mono ?_
        rintro e w13 ⟨rfl, hb⟩
        replace X := X.to hb
        clear hb hr
        have hr := X.r12
        go_wp2_with fail
        refine (K2 _).mono ?_
        rintro e w14 ⟨rfl, hb⟩
        replace X := (X.to hb).alloc #[.int .i64 dv.lo, .int .i64 dv.hi] 23
        clear hb hr
        have hr := X.r13
        go_wp2
        go_ret
        exact ⟨rfl, by have HX := X.1; have hz := HX.size; go_grown⟩
  · have G := fun w => calls_se (mul_any a b w) (t := ⟨0, 0⟩) (er' := 5) ((op2_yes ha hb 0 _).2.trans g1) ((op2_yes ha hb _ Sp.zero).1.trans g0)
    have G2 := fun w => calls_se (mul_any b a w) (t := ⟨0, 0⟩) (er' := 5) ((op2_yes hb ha 0 _).2.trans ((m_comm b a).2.trans g1)) ((op2_yes hb ha _ Sp.zero).1.trans ((m_comm b a).1.trans g0))
    clear g0 g1 ha hb hc
    go_enter Tryd.func7, Tryd.ntmps7
    have hr := X.r3
    go_wp2_with fail
    refine (awake_any _).mono ?_
    rintro e w0 ⟨rfl, hb⟩
    replace X := X.to hb
    clear hb hr
    have hr := X.r3
    go_wp2_with fail
    refine (V1 _).mono ?_
    rintro e w1 ⟨rfl, hb⟩
    replace X := X.to hb
    clear hb hr
    have hr := X.r3
    go_wp2_with fail
    refine (V2 _).mono ?_
    rintro e w2 ⟨rfl, hb⟩
    replace X := X.to hb
    clear hb hr
    have hr := X.r3
    go_wp2_with fail
    refine (V3 _).mono ?_
    rintro e w3 ⟨rfl, hb⟩
    replace X := X.to hb
    clear hb hr
    have hr := X.r3
    go_wp2_with fail
    refine (A1 _).mono ?_
    rintro e w4 ⟨rfl, hb⟩
    replace X := (X.to hb).alloc #[.int .i64 x.lo, .int .i64 x.hi] 23
    clear hb hr
    have hr := X.r4
    go_wp2_with fail
    refine (A2 _).mono ?_
    rintro e w5 ⟨rfl, hb⟩
    replace X := (X.to hb).alloc #[.int .i64 x.lo, .int .i64 x.hi] 23
    clear hb hr
    have hr := X.r5
    go_wp2_with fail
    refine (G _).mono ?_
    rintro e w6 ⟨rfl, hb⟩
    replace X := (X.to hb).alloc #[.int .i64 0, .int .i64 0] 23
    clear hb hr
    have hr := X.r6
    go_wp2_with fail
    refine (G2 _).mono ?_
    rintro e w7 ⟨rfl, hb⟩
    replace X := (X.to hb).alloc #[.int .i64 0, .int .i64 0] 23
    clear hb hr
    have hr := X.r7
    go_wp2_with fail
    refine (B1 _).mono ?_
    rintro e w8 ⟨rfl, hb⟩
    replace X := (X.to hb).alloc #[.int .i64 0, .int .i64 0] 23
    clear hb hr
    have hr := X.r8
    go_wp2_with fail
    refine (J1 _).mono ?_
    rintro e w9 ⟨rfl, hb⟩
    replace X := (X.to hb).alloc #[.int .i64 m.lo, .int .i64 m.hi] 23
    clear hb hr
    have hr := X.r9
    go_wp2_with fail
    refine (N1 _).mono ?_
    rintro e w10 ⟨rfl, hb⟩
    replace X := (X.to hb).alloc #[.int .i64 (m4 c a), .int .i64 (M4 c a)] 23
    clear hb hr
    have hr := X.r10
    go_wp2_with fail
    refine (O1 _).mono ?_
    rintro e w11 ⟨rfl, hb⟩
    replace X := (X.to hb).alloc #[.int .i64 (m4 c b), .int .i64 (M4 c b)] 23
    clear hb hr
    have hr := X.r11
    go_wp2_with fail
    refine (S1 _).mono ?_
    rintro e w12 ⟨rfl, hb⟩
    replace X := (X.to hb).alloc #[.int .i64 0, .int .i64 0] 23
    clear hb hr
    have hr := X.r12
    go_wp2
    go_ret
    exact ⟨rfl, by have HX := X.1; have hz := HX.size; go_grown⟩
set_option maxRecDepth 100000 in
set_option maxHeartbeats 16000000 in
theorem undo_i5_n5 (a b c : Sp) (w : World) (ha : vB a = true) (hb : vB b = true) (hc : vB c = true) (ex : vB ⟨a.lo + b.lo, a.hi + b.hi⟩ = true) (e2 : resE (a.lo + b.lo) (a.hi + b.hi) = 0) (e3 : resS (a.lo + b.lo) (a.hi + b.hi) = ⟨a.lo + b.lo, a.hi + b.hi⟩)
    (i0 : resE (a.lo + b.lo - b.hi) (a.hi + b.hi - b.lo) = 5) (i1 : resS (a.lo + b.lo - b.hi) (a.hi + b.hi - b.lo) = ⟨0, 0⟩) (j0 : mE c ⟨a.lo + b.lo, a.hi + b.hi⟩ = 0) (j1 : mS c ⟨a.lo + b.lo, a.hi + b.hi⟩ = ⟨m4 c ⟨a.lo + b.lo, a.hi + b.hi⟩, M4 c ⟨a.lo + b.lo, a.hi + b.hi⟩⟩) (k0 : mE c a = 0) (k1 : mS c a = ⟨m4 c a, M4 c a⟩) (k2 : vB ⟨m4 c a, M4 c a⟩ = true) (l0 : mE c b = 0) (l1 : mS c b = ⟨m4 c b, M4 c b⟩) (l2 : vB ⟨m4 c b, M4 c b⟩ = true) (r0 : resE (m4 c a + m4 c b) (M4 c a + M4 c b) = 0) (r1 : resS (m4 c a + m4 c b) (M4 c a + M4 c b) = ⟨m4 c a + m4 c b, M4 c a + M4 c b⟩) :
    Calls Tryd.prog 7 #[a.val, b.val, c.val] w fun e w' => e = .returned (.bool true) ∧ Below w.heap.size w w' := by
  have X := ((((Own.start w).alloc #[.int .i64 a.lo, .int .i64 a.hi] 23).alloc #[.int .i64 b.lo, .int .i64 b.hi] 23).alloc #[.int .i64 c.lo, .int .i64 c.hi] 23)
  simp only [World.size_alloc] at X
  have V1 := rvalid_any a
  have V2 := rvalid_any b
  have V3 := rvalid_any c
  rw [ha] at V1
  rw [hb] at V2
  rw [hc] at V3
  have A1 := fun w => calls_se (add_any a b w) (t := ⟨a.lo + b.lo, a.hi + b.hi⟩) (er' := 0) ((op2_yes ha hb 0 _).2.trans e3) ((op2_yes ha hb _ Sp.zero).1.trans e2)
  have A2 := fun w => calls_se (add_any b a w) (t := ⟨a.lo + b.lo, a.hi + b.hi⟩) (er' := 0) ((op2_yes hb ha 0 _).2.trans (by rw [Int.add_comm b.lo, Int.add_comm b.hi]; exact e3)) ((op2_yes hb ha _ Sp.zero).1.trans (by rw [Int.add_comm b.lo, Int.add_comm b.hi]; exact e2))
  have B1 := fun w => calls_se (sub_any ⟨a.lo + b.lo, a.hi + b.hi⟩ b w) (t := ⟨0, 0⟩) (er' := 5) ((op2_yes ex hb 0 _).2.trans i1) ((op2_yes ex hb _ Sp.zero).1.trans i0)

  have J1 := fun w => calls_se (mul_any c ⟨a.lo + b.lo, a.hi + b.hi⟩ w) (t := ⟨m4 c ⟨a.lo + b.lo, a.hi + b.hi⟩, M4 c ⟨a.lo + b.lo, a.hi + b.hi⟩⟩) (er' := 0) ((op2_yes hc ex 0 _).2.trans j1) ((op2_yes hc ex _ Sp.zero).1.trans j0)
  have N1 := fun w => calls_se (mul_any c a w) (t := ⟨m4 c a, M4 c a⟩) (er' := 0) ((op2_yes hc ha 0 _).2.trans k1) ((op2_yes hc ha _ Sp.zero).1.trans k0)
  have O1 := fun w => calls_se (mul_any c b w) (t := ⟨m4 c b, M4 c b⟩) (er' := 0) ((op2_yes hc hb 0 _).2.trans l1) ((op2_yes hc hb _ Sp.zero).1.trans l0)
  have S1 := fun w => calls_se (add_any ⟨m4 c a, M4 c a⟩ ⟨m4 c b, M4 c b⟩ w) (t := ⟨m4 c a + m4 c b, M4 c a + M4 c b⟩) (er' := 0) ((op2_yes k2 l2 0 _).2.trans r1) ((op2_yes k2 l2 _ Sp.zero).1.trans r0)
  have S2 : ∀ w, _ := inside_any ⟨m4 c ⟨a.lo + b.lo, a.hi + b.hi⟩, M4 c ⟨a.lo + b.lo, a.hi + b.hi⟩⟩ ⟨m4 c a + m4 c b, M4 c a + M4 c b⟩
  rw [m_add a b c] at S2
  obtain ⟨s, hs⟩ : ∃ s : Sp, s = ⟨m4 c a + m4 c b, M4 c a + M4 c b⟩ := ⟨_, rfl⟩
  rw [← hs] at S1 S2
  clear hs
  obtain ⟨m, hm⟩ : ∃ m : Sp, m = ⟨m4 c ⟨a.lo + b.lo, a.hi + b.hi⟩, M4 c ⟨a.lo + b.lo, a.hi + b.hi⟩⟩ := ⟨_, rfl⟩
  rw [← hm] at J1 S2
  clear hm
  obtain ⟨x, hx⟩ : ∃ x : Sp, x = ⟨a.lo + b.lo, a.hi + b.hi⟩ := ⟨_, rfl⟩
  clear ex e2 e3 i0 i1 j0 j1 k0 k1 l0 l1 k2 l2 r0 r1
  rw [← hx] at A1 A2 B1 J1
  clear hx
  rcases m_cases a b with ⟨g0, g1, g2⟩ | ⟨g0, g1⟩
  · have G := fun w => calls_se (mul_any a b w) (t := ⟨m4 a b, M4 a b⟩) (er' := 0) ((op2_yes ha hb 0 _).2.trans g1) ((op2_yes ha hb _ Sp.zero).1.trans g0)
    have G2 := fun w => calls_se (mul_any b a w) (t := ⟨m4 a b, M4 a b⟩) (er' := 0) ((op2_yes hb ha 0 _).2.trans ((m_comm b a).2.trans g1)) ((op2_yes hb ha _ Sp.zero).1.trans ((m_comm b a).1.trans g0))
    have K1 := has_any b 0
    rcases Bool.eq_false_or_eq_true (hasB b 0) with h0 | h0
    · rw [h0] at K1
      clear g0 g1 g2 h0 ha hb hc
      go_enter Tryd.func7, Tryd.ntmps7
      have hr := X.r3
      go_wp2_with fail
      refine (awake_any _).mono ?_
      rintro e w0 ⟨rfl, hb⟩
      replace X := X.to hb
      clear hb hr
      have hr := X.r3
      go_wp2_with fail
      refine (V1 _).mono ?_
      rintro e w1 ⟨rfl, hb⟩
      replace X := X.to hb
      clear hb hr
      have hr := X.r3
      go_wp2_with fail
      refine (V2 _).mono ?_
      rintro e w2 ⟨rfl, hb⟩
      replace X := X.to hb
      clear hb hr
      have hr := X.r3
      go_wp2_with fail
      refine (V3 _).mono ?_
      rintro e w3 ⟨rfl, hb⟩
      replace X := X.to hb
      clear hb hr
      have hr := X.r3
      go_wp2_with fail
      refine (A1 _).mono ?_
      rintro e w4 ⟨rfl, hb⟩
      replace X := (X.to hb).alloc #[.int .i64 x.lo, .int .i64 x.hi] 23
      clear hb hr
      have hr := X.r4
      go_wp2_with fail
      refine (A2 _).mono ?_
      rintro e w5 ⟨rfl, hb⟩
      replace X := (X.to hb).alloc #[.int .i64 x.lo, .int .i64 x.hi] 23
      clear hb hr
      have hr := X.r5
      go_wp2_with fail
      refine (G _).mono ?_
      rintro e w6 ⟨rfl, hb⟩
      replace X := (X.to hb).alloc #[.int .i64 (m4 a b), .int .i64 (M4 a b)] 23
      clear hb hr
      have hr := X.r6
      go_wp2_with fail
      refine (G2 _).mono ?_
      rintro e w7 ⟨rfl, hb⟩
      replace X := (X.to hb).alloc #[.int .i64 (m4 a b), .int .i64 (M4 a b)] 23
      clear hb hr
      have hr := X.r7
      go_wp2_with fail
      refine (B1 _).mono ?_
      rintro e w8 ⟨rfl, hb⟩
      replace X := (X.to hb).alloc #[.int .i64 0, .int .i64 0] 23
      clear hb hr
      have hr := X.r8
      go_wp2_with fail
      refine (J1 _).mono ?_
      rintro e w9 ⟨rfl, hb⟩
      replace X := (X.to hb).alloc #[.int .i64 m.lo, .int .i64 m.hi] 23
      clear hb hr
      have hr := X.r9
      go_wp2_with fail
      refine (N1 _).mono ?_
      rintro e w10 ⟨rfl, hb⟩
      replace X := (X.to hb).alloc #[.int .i64 (m4 c a), .int .i64 (M4 c a)] 23
      clear hb hr
      have hr := X.r10
      go_wp2_with fail
      refine (O1 _).mono ?_
      rintro e w11 ⟨rfl, hb⟩
      replace X := (X.to hb).alloc #[.int .i64 (m4 c b), .int .i64 (M4 c b)] 23
      clear hb hr
      have hr := X.r11
      go_wp2_with fail
      refine (S1 _).mono ?_
      rintro e w12 ⟨rfl, hb⟩
      replace X := (X.to hb).alloc #[.int .i64 s.lo, .int .i64 s.hi] 23
      clear hb hr
      have hr := X.r12
      go_wp2_with fail
      refine (S2 _).mono ?_
      rintro e w13 ⟨rfl, hb⟩
      replace X := X.to hb
      clear hb hr
      have hr := X.r12
      go_wp2_with fail
      refine (K1 _).mono ?_
      rintro e w14 ⟨rfl, hb⟩
      replace X := X.to hb
      clear hb hr
      have hr := X.r12
      go_wp2
      go_ret
      exact ⟨rfl, by have HX := X.1; have hz := HX.size; go_grown⟩
    · rw [h0] at K1
      have DC := div_cases g2 hb h0
      rcases DC.1 with d0 | d0
      · have K2 := fun w => calls_se (div_any ⟨m4 a b, M4 a b⟩ b w) (t := divV ⟨m4 a b, M4 a b⟩ b) (er' := 0) (op2_yes g2 hb 0 _).2 ((op2_yes g2 hb _ Sp.zero).1.trans d0)
        have K3 := inside_any a (divV ⟨m4 a b, M4 a b⟩ b)
        rw [div_undo hb h0 g2 d0] at K3
        generalize divV ⟨m4 a b, M4 a b⟩ b = dv at *
        clear g0 g1 g2 h0 d0 DC ha hb hc
        go_enter Tryd.func7, Tryd.ntmps7
        have hr := X.r3
        go_wp2_with fail
        refine (awake_any _).mono ?_
        rintro e w0 ⟨rfl, hb⟩
        replace X := X.to hb
        clear hb hr
        have hr := X.r3
        go_wp2_with fail
        refine (V1 _).mono ?_
        rintro e w1 ⟨rfl, hb⟩
        replace X := X.to hb
        clear hb hr
        have hr := X.r3
        go_wp2_with fail
        refine (V2 _).mono ?_
        rintro e w2 ⟨rfl, hb⟩
        replace X := X.to hb
        clear hb hr
        have hr := X.r3
        go_wp2_with fail
        refine (V3 _).mono ?_
        rintro e w3 ⟨rfl, hb⟩
        replace X := X.to hb
        clear hb hr
        have hr := X.r3
        go_wp2_with fail
        refine (A1 _).mono ?_
        rintro e w4 ⟨rfl, hb⟩
        replace X := (X.to hb).alloc #[.int .i64 x.lo, .int .i64 x.hi] 23
        clear hb hr
        have hr := X.r4
        go_wp2_with fail
        refine (A2 _).mono ?_
        rintro e w5 ⟨rfl, hb⟩
        replace X := (X.to hb).alloc #[.int .i64 x.lo, .int .i64 x.hi] 23
        clear hb hr
        have hr := X.r5
        go_wp2_with fail
        refine (G _).mono ?_
        rintro e w6 ⟨rfl, hb⟩
        replace X := (X.to hb).alloc #[.int .i64 (m4 a b), .int .i64 (M4 a b)] 23
        clear hb hr
        have hr := X.r6
        go_wp2_with fail
        refine (G2 _).mono ?_
        rintro e w7 ⟨rfl, hb⟩
        replace X := (X.to hb).alloc #[.int .i64 (m4 a b), .int .i64 (M4 a b)] 23
        clear hb hr
        have hr := X.r7
        go_wp2_with fail
        refine (B1 _).mono ?_
        rintro e w8 ⟨rfl, hb⟩
        replace X := (X.to hb).alloc #[.int .i64 0, .int .i64 0] 23
        clear hb hr
        have hr := X.r8
        go_wp2_with fail
        refine (J1 _).mono ?_
        rintro e w9 ⟨rfl, hb⟩
        replace X := (X.to hb).alloc #[.int .i64 m.lo, .int .i64 m.hi] 23
        clear hb hr
        have hr := X.r9
        go_wp2_with fail
        refine (N1 _).mono ?_
        rintro e w10 ⟨rfl, hb⟩
        replace X := (X.to hb).alloc #[.int .i64 (m4 c a), .int .i64 (M4 c a)] 23
        clear hb hr
        have hr := X.r10
        go_wp2_with fail
        refine (O1 _).mono ?_
        rintro e w11 ⟨rfl, hb⟩
        replace X := (X.to hb).alloc #[.int .i64 (m4 c b), .int .i64 (M4 c b)] 23
        clear hb hr
        have hr := X.r11
        go_wp2_with fail
        refine (S1 _).mono ?_
        rintro e w12 ⟨rfl, hb⟩
        replace X := (X.to hb).alloc #[.int .i64 s.lo, .int .i64 s.hi] 23
        clear hb hr
        have hr := X.r12
        go_wp2_with fail
        refine (S2 _).mono ?_
        rintro e w13 ⟨rfl, hb⟩
        replace X := X.to hb
        clear hb hr
        have hr := X.r12
        go_wp2_with fail
        refine (K1 _).mono ?_
        rintro e w14 ⟨rfl, hb⟩
        replace X := X.to hb
        clear hb hr
        have hr := X.r12
        go_wp2_with fail
        refine (K2 _).mono ?_
        rintro e w15 ⟨rfl, hb⟩
        replace X := (X.to hb).alloc #[.int .i64 dv.lo, .int .i64 dv.hi] 23
        clear hb hr
        have hr := X.r13
        go_wp2_with fail
        refine (K3 _).mono ?_
        rintro e w16 ⟨rfl, hb⟩
        replace X := X.to hb
        clear hb hr
        have hr := X.r13
        go_wp2
        go_ret
        exact ⟨rfl, by have HX := X.1; have hz := HX.size; go_grown⟩
      · have K2 := fun w => calls_se (div_any ⟨m4 a b, M4 a b⟩ b w) (t := divV ⟨m4 a b, M4 a b⟩ b) (er' := 5) (op2_yes g2 hb 0 _).2 ((op2_yes g2 hb _ Sp.zero).1.trans d0)
        generalize divV ⟨m4 a b, M4 a b⟩ b = dv at *
        clear g0 g1 g2 h0 d0 DC ha hb hc
        go_enter Tryd.func7, Tryd.ntmps7
        have hr := X.r3
        go_wp2_with fail
        refine (awake_any _).mono ?_
        rintro e w0 ⟨rfl, hb⟩
        replace X := X.to hb
        clear hb hr
        have hr := X.r3
        go_wp2_with fail
        refine (V1 _).mono ?_
        rintro e w1 ⟨rfl, hb⟩
        replace X := X.to hb
        clear hb hr
        have hr := X.r3
        go_wp2_with fail
        refine (V2 _).mono ?_
        rintro e w2 ⟨rfl, hb⟩
        replace X := X.to hb
        clear hb hr
        have hr := X.r3
        go_wp2_with fail
        refine (V3 _).mono ?_
        rintro e w3 ⟨rfl, hb⟩
        replace X := X.to hb
        clear hb hr
        have hr := X.r3
        go_wp2_with fail
        refine (A1 _).mono ?_
        rintro e w4 ⟨rfl, hb⟩
        replace X := (X.to hb).alloc #[.int .i64 x.lo, .int .i64 x.hi] 23
        clear hb hr
        have hr := X.r4
        go_wp2_with fail
        refine (A2 _).mono ?_
        rintro e w5 ⟨rfl, hb⟩
        replace X := (X.to hb).alloc #[.int .i64 x.lo, .int .i64 x.hi] 23
        clear hb hr
        have hr := X.r5
        go_wp2_with fail
        refine (G _).mono ?_
        rintro e w6 ⟨rfl, hb⟩
        replace X := (X.to hb).alloc #[.int .i64 (m4 a b), .int .i64 (M4 a b)] 23
        clear hb hr
        have hr := X.r6
        go_wp2_with fail
        refine (G2 _).mono ?_
        rintro e w7 ⟨rfl, hb⟩
        replace X := (X.to hb).alloc #[.int .i64 (m4 a b), .int .i64 (M4 a b)] 23
        clear hb hr
        have hr := X.r7
        go_wp2_with fail
        refine (B1 _).mono ?_
        rintro e w8 ⟨rfl, hb⟩
        replace X := (X.to hb).alloc #[.int .i64 0, .int .i64 0] 23
        clear hb hr
        have hr := X.r8
        go_wp2_with fail
        refine (J1 _).mono ?_
        rintro e w9 ⟨rfl, hb⟩
        replace X := (X.to hb).alloc #[.int .i64 m.lo, .int .i64 m.hi] 23
        clear hb hr
        have hr := X.r9
        go_wp2_with fail
        refine (N1 _).mono ?_
        rintro e w10 ⟨rfl, hb⟩
        replace X := (X.to hb).alloc #[.int .i64 (m4 c a), .int .i64 (M4 c a)] 23
        clear hb hr
        have hr := X.r10
        go_wp2_with fail
        refine (O1 _).mono ?_
        rintro e w11 ⟨rfl, hb⟩
        replace X := (X.to hb).alloc #[.int .i64 (m4 c b), .int .i64 (M4 c b)] 23
        clear hb hr
        have hr := X.r11
        go_wp2_with fail
        refine (S1 _).mono ?_
        rintro e w12 ⟨rfl, hb⟩
        replace X := (X.to hb).alloc #[.int .i64 s.lo, .int .i64 s.hi] 23
        clear hb hr
        have hr := X.r12
        go_wp2_with fail
        refine (S2 _).mono ?_
        rintro e w13 ⟨rfl, hb⟩
        replace X := X.to hb
        clear hb hr
        have hr := X.r12
        go_wp2_with fail
        refine (K1 _).mono ?_
        rintro e w14 ⟨rfl, hb⟩
        replace X := X.to hb
        clear hb hr
        have hr := X.r12
        go_wp2_with fail
        refine (K2 _).mono ?_
        rintro e w15 ⟨rfl, hb⟩
        replace X := (X.to hb).alloc #[.int .i64 dv.lo, .int .i64 dv.hi] 23
        clear hb hr
        have hr := X.r13
        go_wp2
        go_ret
        exact ⟨rfl, by have HX := X.1; have hz := HX.size; go_grown⟩
  · have G := fun w => calls_se (mul_any a b w) (t := ⟨0, 0⟩) (er' := 5) ((op2_yes ha hb 0 _).2.trans g1) ((op2_yes ha hb _ Sp.zero).1.trans g0)
    have G2 := fun w => calls_se (mul_any b a w) (t := ⟨0, 0⟩) (er' := 5) ((op2_yes hb ha 0 _).2.trans ((m_comm b a).2.trans g1)) ((op2_yes hb ha _ Sp.zero).1.trans ((m_comm b a).1.trans g0))
    clear g0 g1 ha hb hc
    go_enter Tryd.func7, Tryd.ntmps7
    have hr := X.r3
    go_wp2_with fail
    refine (awake_any _).mono ?_
    rintro e w0 ⟨rfl, hb⟩
    replace X := X.to hb
    clear hb hr
    have hr := X.r3
    go_wp2_with fail
    refine (V1 _).mono ?_
    rintro e w1 ⟨rfl, hb⟩
    replace X := X.to hb
    clear hb hr
    have hr := X.r3
    go_wp2_with fail
    refine (V2 _).mono ?_
    rintro e w2 ⟨rfl, hb⟩
    replace X := X.to hb
    clear hb hr
    have hr := X.r3
    go_wp2_with fail
    refine (V3 _).mono ?_
    rintro e w3 ⟨rfl, hb⟩
    replace X := X.to hb
    clear hb hr
    have hr := X.r3
    go_wp2_with fail
    refine (A1 _).mono ?_
    rintro e w4 ⟨rfl, hb⟩
    replace X := (X.to hb).alloc #[.int .i64 x.lo, .int .i64 x.hi] 23
    clear hb hr
    have hr := X.r4
    go_wp2_with fail
    refine (A2 _).mono ?_
    rintro e w5 ⟨rfl, hb⟩
    replace X := (X.to hb).alloc #[.int .i64 x.lo, .int .i64 x.hi] 23
    clear hb hr
    have hr := X.r5
    go_wp2_with fail
    refine (G _).mono ?_
    rintro e w6 ⟨rfl, hb⟩
    replace X := (X.to hb).alloc #[.int .i64 0, .int .i64 0] 23
    clear hb hr
    have hr := X.r6
    go_wp2_with fail
    refine (G2 _).mono ?_
    rintro e w7 ⟨rfl, hb⟩
    replace X := (X.to hb).alloc #[.int .i64 0, .int .i64 0] 23
    clear hb hr
    have hr := X.r7
    go_wp2_with fail
    refine (B1 _).mono ?_
    rintro e w8 ⟨rfl, hb⟩
    replace X := (X.to hb).alloc #[.int .i64 0, .int .i64 0] 23
    clear hb hr
    have hr := X.r8
    go_wp2_with fail
    refine (J1 _).mono ?_
    rintro e w9 ⟨rfl, hb⟩
    replace X := (X.to hb).alloc #[.int .i64 m.lo, .int .i64 m.hi] 23
    clear hb hr
    have hr := X.r9
    go_wp2_with fail
    refine (N1 _).mono ?_
    rintro e w10 ⟨rfl, hb⟩
    replace X := (X.to hb).alloc #[.int .i64 (m4 c a), .int .i64 (M4 c a)] 23
    clear hb hr
    have hr := X.r10
    go_wp2_with fail
    refine (O1 _).mono ?_
    rintro e w11 ⟨rfl, hb⟩
    replace X := (X.to hb).alloc #[.int .i64 (m4 c b), .int .i64 (M4 c b)] 23
    clear hb hr
    have hr := X.r11
    go_wp2_with fail
    refine (S1 _).mono ?_
    rintro e w12 ⟨rfl, hb⟩
    replace X := (X.to hb).alloc #[.int .i64 s.lo, .int .i64 s.hi] 23
    clear hb hr
    have hr := X.r12
    go_wp2_with fail
    refine (S2 _).mono ?_
    rintro e w13 ⟨rfl, hb⟩
    replace X := X.to hb
    clear hb hr
    have hr := X.r12
    go_wp2
    go_ret
    exact ⟨rfl, by have HX := X.1; have hz := HX.size; go_grown⟩
end Go.Proofs.YtgflgnbbkhikcaaDoor
