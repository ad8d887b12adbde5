/- The reference's long division (sewershedref03.Div): quotient and rest; nothing that was there is turned (printed by gen_rf3.py). -/
import Derived.Test.YtgflgnbbkhikcaaDoorRf3
import Derived.Test.YtgflgnbbkhikcaaDoorOwn3
namespace Go.Proofs.YtgflgnbbkhikcaaDoor
open Go.RowKit

theorem Own.rot3 {w W : World} {x y z : Nat × TypeId × Array Value} {L} (h : Own w W (x :: y :: z :: L)) : Own w W (z :: x :: y :: L) :=
  ⟨h.1, fun u hu => h.2 u (by simp only [List.mem_cons] at hu ⊢; rcases hu with h | h | h | h <;> simp [h])⟩
/-- what the division holds ahead of round i -/
structure DivSt (a b i : Nat) (xh xl qh ql rh rl : Nat) : Prop where
  x : xh < 18446744073709551616 ∧ xl < 18446744073709551616
  q : qh < 18446744073709551616 ∧ ql < 18446744073709551616
  r : rh < 18446744073709551616 ∧ rl < 18446744073709551616
  rel : DivRel a b i (xh * 18446744073709551616 + xl) (qh * 18446744073709551616 + ql) (rh * 18446744073709551616 + rl)
theorem DivSt.low {a b i xh xl qh ql rh rl xh' xl' rh' rl' qh' ql' bit over : Nat} (h : DivSt a b i xh xl qh ql rh rl) (ha : a < 340282366920938463463374607431768211456) (hb : 0 < b) (hb' : b < 340282366920938463463374607431768211456) (hi : i < 128) (hbit : bit = xh / 9223372036854775808) (hover : over = rh / 9223372036854775808)
    (h1 : Wd xh' xl' ((xh * 18446744073709551616 + xl) * 2 % 340282366920938463463374607431768211456)) (h2 : Wd rh' rl' ((rh * 18446744073709551616 + rl) * 2 % 340282366920938463463374607431768211456 + bit)) (h3 : Wd qh' ql' ((qh * 18446744073709551616 + ql) * 2 % 340282366920938463463374607431768211456)) (ho : over = 0) (hl : rh' * 18446744073709551616 + rl' < b) :
    DivSt a b (i + 1) xh' xl' qh' ql' rh' rl' := by
  have n := h.rel.next hb
  have bd := h.rel.bd ha hb
  have p : 2 ^ i ≤ 2 ^ 127 := Nat.pow_le_pow_right (by omega) (by omega)
  obtain ⟨_, ⟨_, _⟩, ⟨_, _⟩, _⟩ := h
  obtain ⟨x1, x2, x3⟩ := h1
  obtain ⟨r1, r2, r3⟩ := h2
  obtain ⟨q1, q2, q3⟩ := h3
  have t : (xh * 18446744073709551616 + xl) / 170141183460469231731687303715884105728 = bit := by omega
  rw [t] at n
  rw [if_neg (by omega), if_neg (by omega)] at n
  refine ⟨⟨x1, x2⟩, ⟨q1, q2⟩, ⟨r1, r2⟩, ?_⟩
  rw [x3, q3, r3]
  rw [Nat.mod_eq_of_lt (by omega : (qh * 18446744073709551616 + ql) * 2 < 340282366920938463463374607431768211456), Nat.mod_eq_of_lt (by omega : (rh * 18446744073709551616 + rl) * 2 < 340282366920938463463374607431768211456)]
  exact n
theorem div_sub {R R' S b bit : Nat} (h1 : R' = R * 2 % 340282366920938463463374607431768211456 + bit) (hb : bit ≤ 1) (h2 : R < b) (hb' : b < 340282366920938463463374607431768211456) (hl : 170141183460469231731687303715884105728 ≤ R ∨ b ≤ R') (h3 : S = (R' + 340282366920938463463374607431768211456 - b) % 340282366920938463463374607431768211456) :
    b ≤ R * 2 + bit ∧ S = R * 2 + bit - b := by
  by_cases h : 170141183460469231731687303715884105728 ≤ R
  · have e : R * 2 % 340282366920938463463374607431768211456 = R * 2 - 340282366920938463463374607431768211456 := by omega
    rw [e] at h1
    have e2 : R' + 340282366920938463463374607431768211456 - b < 340282366920938463463374607431768211456 := by omega
    rw [Nat.mod_eq_of_lt e2] at h3
    omega
  · have e : R * 2 % 340282366920938463463374607431768211456 = R * 2 := by omega
    rw [e] at h1
    have e2 : R' + 340282366920938463463374607431768211456 - b = (R' - b) + 340282366920938463463374607431768211456 := by omega
    rw [e2, Nat.add_mod_right, Nat.mod_eq_of_lt (by omega)] at h3
    omega
theorem DivSt.high {a b i xh xl qh ql rh rl xh' xl' rh' rl' qh' ql' bit over rh2 rl2 ql2 : Nat} (h : DivSt a b i xh xl qh ql rh rl) (ha : a < 340282366920938463463374607431768211456) (hb : 0 < b) (hb' : b < 340282366920938463463374607431768211456) (hi : i < 128) (hbit : bit = xh / 9223372036854775808) (hover : over = rh / 9223372036854775808)
    (h1 : Wd xh' xl' ((xh * 18446744073709551616 + xl) * 2 % 340282366920938463463374607431768211456)) (h2 : Wd rh' rl' ((rh * 18446744073709551616 + rl) * 2 % 340282366920938463463374607431768211456 + bit)) (h3 : Wd qh' ql' ((qh * 18446744073709551616 + ql) * 2 % 340282366920938463463374607431768211456)) (hl : 0 < over ∨ b ≤ rh' * 18446744073709551616 + rl')
    (h4 : Wd rh2 rl2 ((rh' * 18446744073709551616 + rl' + 340282366920938463463374607431768211456 - b) % 340282366920938463463374607431768211456)) (h5 : ql2 = ql' + 1) :
    DivSt a b (i + 1) xh' xl' qh' ql2 rh2 rl2 ∧ ql' + 1 < 18446744073709551616 := by
  have n := h.rel.next hb
  have bd := h.rel.bd ha hb
  have p : 2 ^ i ≤ 2 ^ 127 := Nat.pow_le_pow_right (by omega) (by omega)
  obtain ⟨_, ⟨_, _⟩, ⟨_, _⟩, _⟩ := h
  obtain ⟨x1, x2, x3⟩ := h1
  obtain ⟨r1, r2, r3⟩ := h2
  obtain ⟨q1, q2, q3⟩ := h3
  obtain ⟨s1, s2, s3⟩ := h4
  have t : (xh * 18446744073709551616 + xl) / 170141183460469231731687303715884105728 = bit := by omega
  rw [t] at n
  have hB : bit ≤ 1 := by clear n h5 hl hover; omega
  have hov : 170141183460469231731687303715884105728 ≤ rh * 18446744073709551616 + rl ∨ b ≤ rh' * 18446744073709551616 + rl' := by
    rcases hl with hl | hl
    · clear n h5; omega
    · exact .inr hl
  obtain ⟨f1, f2⟩ := div_sub r3 hB bd.2.1 hb' hov s3
  rw [if_pos f1, if_pos f1] at n
  have hq2 : (qh * 18446744073709551616 + ql) * 2 < 340282366920938463463374607431768211456 := by have := bd.2.2; clear n h5 hl hbit hover; omega
  rw [Nat.mod_eq_of_lt hq2] at q3
  clear p
  generalize 2 ^ i = pw at *
  have hq : ql' + 1 < 18446744073709551616 := by clear n s3 r3 x3 hl hbit hover bd; omega
  refine ⟨⟨⟨x1, x2⟩, ⟨q1, by rw [h5]; exact hq⟩, ⟨s1, s2⟩, ?_⟩, hq⟩
  have e2 : qh' * 18446744073709551616 + ql2 = (qh * 18446744073709551616 + ql) * 2 + 1 := by rw [h5, ← q3, Nat.add_assoc]
  rw [x3, e2, f2]
  exact n
theorem wd_lt {a b : Nat} (ha : a < 18446744073709551616) (hb : b < 18446744073709551616) : a * 18446744073709551616 + b < 340282366920938463463374607431768211456 := by omega
abbrev Uc (h l : Nat) : Array Value := #[.int .u64 (h : Int), .int .u64 (l : Int)]
theorem Own.setU {w W : World} {b : Nat} {t : TypeId} {h l h' l' : Nat} {L : List (Nat × TypeId × Array Value)} (X : Own w W ((b, t, Uc h l) :: L)) (hb : w.heap.size ≤ b) (hn : ∀ x ∈ L, x.1 ≠ b) :
    Own w ((W.setCell ⟨b, 0, none⟩ (.int .u64 (h' : Int))).setCell ⟨b, 1, none⟩ (.int .u64 (l' : Int))) ((b, t, Uc h' l') :: L) :=
  (X.set0 hb hn 0 (.int .u64 (h' : Int))).set0 hb hn 1 (.int .u64 (l' : Int))
set_option maxRecDepth 100000 in
set_option maxHeartbeats 4000000 in
theorem r3div_any (a b c d : Nat) (w : World) (ha : a < 18446744073709551616) (hb : b < 18446744073709551616) (hc : c < 18446744073709551616) (hd : d < 18446744073709551616) (h0 : 0 < c * 18446744073709551616 + d) :
    Calls Tryd.prog 64 #[Ud a b, Ud c d] w fun e w' => (∃ qh ql rh rl : Nat, e = .returned (.tuple #[Ud qh ql, Ud rh rl]) ∧ Wd qh ql ((a * 18446744073709551616 + b) / (c * 18446744073709551616 + d)) ∧ Wd rh rl ((a * 18446744073709551616 + b) % (c * 18446744073709551616 + d))) ∧ Below w.heap.size w w' := by
  have X0 := (((((((Own.start w).alloc (Uc a b) 57).alloc (Uc c d) 57).alloc (Uc 0 0) 57).alloc (Uc 0 0) 57).alloc (Uc 0 0) 57).alloc (Uc 0 0) 57)
  simp only [World.size_alloc] at X0
  have X : Own w _ [(w.heap.size + 1 + 1 + 1 + 1, 57, Uc 0 0), (w.heap.size + 1 + 1 + 1 + 1 + 1, 57, Uc 0 0), (w.heap.size, 57, Uc a b), (w.heap.size + 1, 57, Uc c d), (w.heap.size + 1 + 1, 57, Uc 0 0), (w.heap.size + 1 + 1 + 1, 57, Uc 0 0)] :=
    ⟨X0.1, fun u hu => X0.2 u (by simp only [List.mem_cons, List.not_mem_nil, or_false] at hu ⊢; rcases hu with h | h | h | h | h | h <;> simp [h])⟩
  clear X0
  have S0 := hide (show DivSt (a * 18446744073709551616 + b) (c * 18446744073709551616 + d) 0 a b 0 0 0 0 from ⟨⟨ha, hb⟩, by omega, by omega, DivRel.start (by omega) h0⟩)
  have HB := hide (And.intro (wd_lt ha hb) (And.intro (wd_lt hc hd) h0))
  have LESS := hide (fun x y W hy => r3less_any x y c d W hy hd)
  have MINUS := hide (fun x y W hx hy => r3minus_any x y c d W hx hy hc hd)
  clear ha hb hc hd h0
  have X' := hide X
  clear X
  go_enter Tryd.func64, Tryd.ntmps64
  go_wp2
  go_loopw [8] (fun v8 wr => ∃ i xh xl qh ql rh rl : Nat, i ≤ 128 ∧ v8 = .int .i64 (i : Int) ∧ Own w wr [(w.heap.size + 1 + 1 + 1 + 1, 57, Uc qh ql), (w.heap.size + 1 + 1 + 1 + 1 + 1, 57, Uc rh rl), (w.heap.size, 57, Uc xh xl), (w.heap.size + 1, 57, Uc c d), (w.heap.size + 1 + 1, 57, Uc 0 0), (w.heap.size + 1 + 1 + 1, 57, Uc 0 0)] ∧
      Hid (DivSt (a * 18446744073709551616 + b) (c * 18446744073709551616 + d) i xh xl qh ql rh rl)) (fun v8 _ => 128 - (intOf v8).toNat)
  case atStart => exact ⟨0, a, b, 0, 0, 0, 0, by omega, rfl, X'.out, S0⟩
  case round =>
    obtain ⟨i, xh, xl, qh, ql, rh, rl, hi, rfl, Y, hst⟩ := hrel
    by_cases hlt : i < 128
    · have hx := hst.out.x
      have hr := hst.out.r
      have hq := hst.out.q
      obtain ⟨bit, hbit⟩ : ∃ bit : Nat, bit = xh / 9223372036854775808 := ⟨_, rfl⟩
      obtain ⟨ov, hov⟩ : ∃ ov : Nat, ov = rh / 9223372036854775808 := ⟨_, rfl⟩
      have e1 : (xh : Int) / 9223372036854775808 = (bit : Int) := e_div (a := 9223372036854775808) hbit
      have e2 : (rh : Int) / 9223372036854775808 = (ov : Int) := e_div (a := 9223372036854775808) hov
      have S1 := hide (fun W => r3shift_any xh xl 0 W hx.2 (by omega))
      have S2 := hide (fun W => r3shift_any rh rl bit W hr.2 (by omega))
      have S3 := hide (fun W => r3shift_any qh ql 0 W hq.2 (by omega))
      have HBO := hide (And.intro hbit hov)
      clear hx hr hq hbit hov
      have hh := Y.r6
      go_wp2_with fail
      refine (S1.out _).mono ?_
      rintro e w1 ⟨⟨xh', xl', rfl, hw1⟩, hb⟩
      have Y1 := (Y.to hb).rot3
      have Y2 := Y1.setU (h' := xh') (l' := xl') (by omega) (by simp <;> omega)
      rw [Nat.add_zero] at hw1
      have hw1 := hide hw1
      clear hb hh
      have hh := Y1.r6
      go_wp2_with fail
      refine (S2.out _).mono ?_
      rintro e w2 ⟨⟨rh', rl', rfl, hw2⟩, hb⟩
      have Y3 := (Y2.to hb).rot3
      have Y4 := Y3.setU (h' := rh') (l' := rl') (by omega) (by simp <;> omega)
      have hw2 := hide hw2
      clear hb hh Y1 Y2
      have hh := Y3.r6
      go_wp2_with fail
      refine (S3.out _).mono ?_
      rintro e w3 ⟨⟨qh', ql', rfl, hw3⟩, hb⟩
      have Y5 := (Y4.to hb).rot3
      have Y6 := Y5.setU (h' := qh') (l' := ql') (by omega) (by simp <;> omega)
      rw [Nat.add_zero] at hw3
      have hw3 := hide hw3
      clear hb hh Y3 Y4
      have hh := Y5.r6
      have ql3 := hw3.out.2.1
      by_cases ho : 0 < ov
      · as_aux_lemma =>
        have o1 : (0 : Int) < (ov : Int) := by omega
        have HO := hide ho
        clear ho
        go_wp2_with fail
        refine (MINUS.out _ _ _ hw2.out.1 hw2.out.2.1).mono ?_
        rintro e w4 ⟨⟨rh2, rl2, rfl, hw4⟩, hb⟩
        obtain ⟨S', hlt2⟩ := DivSt.high hst.out HB.out.1 HB.out.2.2 HB.out.2.1 hlt HBO.out.1 HBO.out.2 hw1.out hw2.out hw3.out (.inl HO.out) hw4 rfl
        have e3 : IntKind.u64.wrap ((ql' : Int) + 1) = ((ql' + 1 : Nat) : Int) := e_addw (y := 1) rfl hlt2
        obtain ⟨ql4, hql4⟩ : ∃ ql4 : Nat, ql4 = ql' + 1 := ⟨_, rfl⟩
        rw [← hql4] at e3 S'
        have S'' := hide S'
        have Y7 := (Y6.to hb).swap
        have Y8 := Y7.setU (h' := rh2) (l' := rl2) (by omega) (by simp <;> omega)
        have Y9 := Y8.swap.set0 (by omega) (by simp <;> omega) 1 (.int .u64 (ql4 : Int))
        clear hb hh Y5 Y6 hql4 hlt2 S' hw4
        have hh := Y7.r6
        go_wp2
        go_roundw
        case rel => exact ⟨i + 1, xh', xl', qh', ql4, rh2, rl2, by omega, by go_num, Y9, S''⟩
        case measure => simp [intOf]; omega
      · have o1 : ¬ (0 : Int) < (ov : Int) := by omega
        have o2 : ov = 0 := by omega
        have HO := hide o2
        clear ho o2
        by_cases hl : rh' * 18446744073709551616 + rl' < c * 18446744073709551616 + d
        · as_aux_lemma =>
          have L1 := hide (fun W => LESS.out rh' rl' W hw2.out.2.1)
          rw [decide_eq_true hl] at L1
          have S'' := hide (DivSt.low hst.out HB.out.1 HB.out.2.2 HB.out.2.1 hlt HBO.out.1 HBO.out.2 hw1.out hw2.out hw3.out HO.out hl)
          clear hl
          go_wp2_with fail
          refine (L1.out _).mono ?_
          rintro e w4 ⟨rfl, hb⟩
          have Y7 := Y6.to hb
          clear hb hh Y5 Y6
          have hh := Y7.r6
          go_wp2
          go_roundw
          case rel => exact ⟨i + 1, xh', xl', qh', ql', rh', rl', by omega, by go_num, Y7, S''⟩
          case measure => simp [intOf]; omega
        · as_aux_lemma =>
          have L1 := hide (fun W => LESS.out rh' rl' W hw2.out.2.1)
          rw [decide_eq_false hl] at L1
          have HL := hide hl
          clear hl
          go_wp2_with fail
          refine (L1.out _).mono ?_
          rintro e w4 ⟨rfl, hb⟩
          have Y6' := Y6.to hb
          clear hb hh Y5 Y6
          have hh := Y6'.r6
          go_wp2_with fail
          refine (MINUS.out _ _ _ hw2.out.1 hw2.out.2.1).mono ?_
          rintro e w5 ⟨⟨rh2, rl2, rfl, hw4⟩, hb⟩
          obtain ⟨S', hlt2⟩ := DivSt.high hst.out HB.out.1 HB.out.2.2 HB.out.2.1 hlt HBO.out.1 HBO.out.2 hw1.out hw2.out hw3.out (.inr (Nat.not_lt.1 HL.out)) hw4 rfl
          have e3 : IntKind.u64.wrap ((ql' : Int) + 1) = ((ql' + 1 : Nat) : Int) := e_addw (y := 1) rfl hlt2
          obtain ⟨ql4, hql4⟩ : ∃ ql4 : Nat, ql4 = ql' + 1 := ⟨_, rfl⟩
          rw [← hql4] at e3 S'
          have S'' := hide S'
          have Y7 := (Y6'.to hb).swap
          have Y8 := Y7.setU (h' := rh2) (l' := rl2) (by omega) (by simp <;> omega)
          have Y9 := Y8.swap.set0 (by omega) (by simp <;> omega) 1 (.int .u64 (ql4 : Int))
          clear hb hh Y6' hql4 hlt2 S' hw4
          have hh := Y7.r6
          go_wp2
          go_roundw
          case rel => exact ⟨i + 1, xh', xl', qh', ql4, rh2, rl2, by omega, by go_num, Y9, S''⟩
          case measure => simp [intOf]; omega
    · have e : i = 128 := by omega
      subst e
      have F := hide (And.intro hst.out.rel.fin (And.intro hst.out.q hst.out.r))
      have hh := Y.r6
      clear hst hlt
      go_wp2
      go_region
      go_wp2
      exact bodyPost_ret (v := .tuple #[Ud qh ql, Ud rh rl]) (by simp [results, Tryd.results64, hh, go_sem]) rfl ⟨⟨qh, ql, rh, rl, rfl, ⟨F.out.2.1.1, F.out.2.1.2, F.out.1.1⟩, ⟨F.out.2.2.1, F.out.2.2.2, F.out.1.2⟩⟩, by have HX := Y.1; have hz := HX.size; go_grown⟩
end Go.Proofs.YtgflgnbbkhikcaaDoor
