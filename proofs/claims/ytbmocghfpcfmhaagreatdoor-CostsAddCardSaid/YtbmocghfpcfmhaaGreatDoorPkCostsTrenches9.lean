/- Parts of one proof, joined: The reference's long division (sewershedref03.Div): quotient and rest; nothing that was there is turned (printed by gen_rf3.py). The reference's integers (sewershedref03): Made, OfInt, Times, Opposite, IsInt, Down, Up, FloorOf, CeilOf: what each returns; nothing that was there is turned (printed by gen_rf3.py). The reference's quotients (sewershedref03): Down, Up, FloorOf, CeilOf: what each returns; nothing that was there is turned (printed by gen_rf3q.py). -/
import Derived.Test.YtbmocghfpcfmhaaGreatDoorPkCostsTrenches8
import Derived.Test.YtbmocghfpcfmhaaGreatDoorPkCostsTrenches2
import Derived.Deep.QuietTactic
import Derived.BigQuiet
import Derived.RegionTactic
namespace Go.Proofs.YtbmocghfpcfmhaaGreatDoor
open Go.RowKit

theorem Own.rot3 {w W : World} {x y z : Nat × TypeId × Array Value} {L} (h : Own w W (x :: y :: z :: L)) : Own w W (z :: x :: y :: L) :=
  ⟨h.1, fun u hu => h.2 u (by simp only [List.mem_cons] at hu ⊢; rcases hu with h | h | h | h <;> simp [h])⟩
/-- what the division holds ahead of round i -/
structure DivSt (a b i : Nat) (xh xl qh ql rh rl : Nat) : Prop where
  x : xh < 18446744073709551616 ∧ xl < 18446744073709551616
  q : qh < 18446744073709551616 ∧ ql < 18446744073709551616
  r : rh < 18446744073709551616 ∧ rl < 18446744073709551616
  rel : DivRel a b i (xh * 18446744073709551616 + xl) (qh * 18446744073709551616 + ql) (rh * 18446744073709551616 + rl)
theorem DivSt.low {a b i xh xl qh ql rh rl xh' xl' rh' rl' qh' ql' bit over : Nat} (h : DivSt a b i xh xl qh ql rh rl) (ha : a < 340282366920938463463374607431768211456) (hb : 0 < b) (hb' : b < 340282366920938463463374607431768211456) (hi : i < 128) (hbit : bit = xh / 9223372036854775808) (hover : over = rh / 9223372036854775808)
    (h1 : Wd xh' xl' ((xh * 18446744073709551616 + xl) * 2 % 340282366920938463463374607431768211456)) (h2 : Wd rh' rl' ((rh * 18446744073709551616 + rl) * 2 % 340282366920938463463374607431768211456 + bit)) (h3 : Wd qh' ql' ((qh * 18446744073709551616 + ql) * 2 % 340282366920938463463374607431768211456)) (ho : over = 0) (hl : rh' * 18446744073709551616 + rl' < b) :
    DivSt a b (i + 1) xh' xl' qh' ql' rh' rl' := by
  have n := h.rel.next hb
  have bd := h.rel.bd ha hb
  have p : 2 ^ i ≤ 2 ^ 127 := Nat.pow_le_pow_right (by omega) (by omega)
  obtain ⟨_, ⟨_, _⟩, ⟨_, _⟩, _⟩ := h
  obtain ⟨x1, x2, x3⟩ := h1
  obtain ⟨r1, r2, r3⟩ := h2
  obtain ⟨q1, q2, q3⟩ := h3
  have t : (xh * 18446744073709551616 + xl) / 170141183460469231731687303715884105728 = bit := by omega
  rw [t] at n
  rw [if_neg (by omega), if_neg (by omega)] at n
  refine ⟨⟨x1, x2⟩, ⟨q1, q2⟩, ⟨r1, r2⟩, ?_⟩
  rw [x3, q3, r3]
  rw [Nat.mod_eq_of_lt (by omega : (qh * 18446744073709551616 + ql) * 2 < 340282366920938463463374607431768211456), Nat.mod_eq_of_lt (by omega : (rh * 18446744073709551616 + rl) * 2 < 340282366920938463463374607431768211456)]
  exact n
theorem div_sub {R R' S b bit : Nat} (h1 : R' = R * 2 % 340282366920938463463374607431768211456 + bit) (hb : bit ≤ 1) (h2 : R < b) (hb' : b < 340282366920938463463374607431768211456) (hl : 170141183460469231731687303715884105728 ≤ R ∨ b ≤ R') (h3 : S = (R' + 340282366920938463463374607431768211456 - b) % 340282366920938463463374607431768211456) :
    b ≤ R * 2 + bit ∧ S = R * 2 + bit - b := by
  by_cases h : 170141183460469231731687303715884105728 ≤ R
  · have e : R * 2 % 340282366920938463463374607431768211456 = R * 2 - 340282366920938463463374607431768211456 := by omega
    rw [e] at h1
    have e2 : R' + 340282366920938463463374607431768211456 - b < 340282366920938463463374607431768211456 := by omega
    rw [Nat.mod_eq_of_lt e2] at h3
    omega
  · have e : R * 2 % 340282366920938463463374607431768211456 = R * 2 := by omega
    rw [e] at h1
    have e2 : R' + 340282366920938463463374607431768211456 - b = (R' - b) + 340282366920938463463374607431768211456 := by omega
    rw [e2, Nat.add_mod_right, Nat.mod_eq_of_lt (by omega)] at h3
    omega
theorem DivSt.high {a b i xh xl qh ql rh rl xh' xl' rh' rl' qh' ql' bit over rh2 rl2 ql2 : Nat} (h : DivSt a b i xh xl qh ql rh rl) (ha : a < 340282366920938463463374607431768211456) (hb : 0 < b) (hb' : b < 340282366920938463463374607431768211456) (hi : i < 128) (hbit : bit = xh / 9223372036854775808) (hover : over = rh / 9223372036854775808)
    (h1 : Wd xh' xl' ((xh * 18446744073709551616 + xl) * 2 % 340282366920938463463374607431768211456)) (h2 : Wd rh' rl' ((rh * 18446744073709551616 + rl) * 2 % 340282366920938463463374607431768211456 + bit)) (h3 : Wd qh' ql' ((qh * 18446744073709551616 + ql) * 2 % 340282366920938463463374607431768211456)) (hl : 0 < over ∨ b ≤ rh' * 18446744073709551616 + rl')
    (h4 : Wd rh2 rl2 ((rh' * 18446744073709551616 + rl' + 340282366920938463463374607431768211456 - b) % 340282366920938463463374607431768211456)) (h5 : ql2 = ql' + 1) :
    DivSt a b (i + 1) xh' xl' qh' ql2 rh2 rl2 ∧ ql' + 1 < 18446744073709551616 := by
  have n := h.rel.next hb
  have bd := h.rel.bd ha hb
  have p : 2 ^ i ≤ 2 ^ 127 := Nat.pow_le_pow_right (by omega) (by omega)
  obtain ⟨_, ⟨_, _⟩, ⟨_, _⟩, _⟩ := h
  obtain ⟨x1, x2, x3⟩ := h1
  obtain ⟨r1, r2, r3⟩ := h2
  obtain ⟨q1, q2, q3⟩ := h3
  obtain ⟨s1, s2, s3⟩ := h4
  have t : (xh * 18446744073709551616 + xl) / 170141183460469231731687303715884105728 = bit := by omega
  rw [t] at n
  have hB : bit ≤ 1 := by clear n h5 hl hover; omega
  have hov : 170141183460469231731687303715884105728 ≤ rh * 18446744073709551616 + rl ∨ b ≤ rh' * 18446744073709551616 + rl' := by
    rcases hl with hl | hl
    · clear n h5; omega
    · exact .inr hl
  obtain ⟨f1, f2⟩ := div_sub r3 hB bd.2.1 hb' hov s3
  rw [if_pos f1, if_pos f1] at n
  have hq2 : (qh * 18446744073709551616 + ql) * 2 < 340282366920938463463374607431768211456 := by have := bd.2.2; clear n h5 hl hbit hover; omega
  rw [Nat.mod_eq_of_lt hq2] at q3
  clear p
  generalize 2 ^ i = pw at *
  have hq : ql' + 1 < 18446744073709551616 := by clear n s3 r3 x3 hl hbit hover bd; omega
  refine ⟨⟨⟨x1, x2⟩, ⟨q1, by rw [h5]; exact hq⟩, ⟨s1, s2⟩, ?_⟩, hq⟩
  have e2 : qh' * 18446744073709551616 + ql2 = (qh * 18446744073709551616 + ql) * 2 + 1 := by rw [h5, ← q3, Nat.add_assoc]
  rw [x3, e2, f2]
  exact n
theorem wd_lt {a b : Nat} (ha : a < 18446744073709551616) (hb : b < 18446744073709551616) : a * 18446744073709551616 + b < 340282366920938463463374607431768211456 := by omega
abbrev Uc (h l : Nat) : Array Value := #[.int .u64 (h : Int), .int .u64 (l : Int)]
theorem Own.setU {w W : World} {b : Nat} {t : TypeId} {h l h' l' : Nat} {L : List (Nat × TypeId × Array Value)} (X : Own w W ((b, t, Uc h l) :: L)) (hb : w.heap.size ≤ b) (hn : ∀ x ∈ L, x.1 ≠ b) :
    Own w ((W.setCell ⟨b, 0, none⟩ (.int .u64 (h' : Int))).setCell ⟨b, 1, none⟩ (.int .u64 (l' : Int))) ((b, t, Uc h' l') :: L) :=
  (X.set0 hb hn 0 (.int .u64 (h' : Int))).set0 hb hn 1 (.int .u64 (l' : Int))
set_option maxRecDepth 100000 in
set_option maxHeartbeats 4000000 in
theorem r3div_any (a b c d : Nat) (w : World) (ha : a < 18446744073709551616) (hb : b < 18446744073709551616) (hc : c < 18446744073709551616) (hd : d < 18446744073709551616) (h0 : 0 < c * 18446744073709551616 + d) :
    Calls Tryz.prog 119 #[Ud a b, Ud c d] w fun e w' => (∃ qh ql rh rl : Nat, e = .returned (.tuple #[Ud qh ql, Ud rh rl]) ∧ Wd qh ql ((a * 18446744073709551616 + b) / (c * 18446744073709551616 + d)) ∧ Wd rh rl ((a * 18446744073709551616 + b) % (c * 18446744073709551616 + d))) ∧ Below w.heap.size w w' := by
  have X0 := (((((((Own.start w).alloc (Uc a b) 109).alloc (Uc c d) 109).alloc (Uc 0 0) 109).alloc (Uc 0 0) 109).alloc (Uc 0 0) 109).alloc (Uc 0 0) 109)
  simp only [World.size_alloc] at X0
  have X : Own w _ [(w.heap.size + 1 + 1 + 1 + 1, 109, Uc 0 0), (w.heap.size + 1 + 1 + 1 + 1 + 1, 109, Uc 0 0), (w.heap.size, 109, Uc a b), (w.heap.size + 1, 109, Uc c d), (w.heap.size + 1 + 1, 109, Uc 0 0), (w.heap.size + 1 + 1 + 1, 109, Uc 0 0)] :=
    ⟨X0.1, fun u hu => X0.2 u (by simp only [List.mem_cons, List.not_mem_nil, or_false] at hu ⊢; rcases hu with h | h | h | h | h | h <;> simp [h])⟩
  clear X0
  have S0 := hide (show DivSt (a * 18446744073709551616 + b) (c * 18446744073709551616 + d) 0 a b 0 0 0 0 from ⟨⟨ha, hb⟩, by omega, by omega, DivRel.start (by omega) h0⟩)
  have HB := hide (And.intro (wd_lt ha hb) (And.intro (wd_lt hc hd) h0))
  have LESS := hide (fun x y W hy => r3less_any x y c d W hy hd)
  have MINUS := hide (fun x y W hx hy => r3minus_any x y c d W hx hy hc hd)
  clear ha hb hc hd h0
  have X' := hide X
  clear X
  go_enter Tryz.func119, Tryz.ntmps119
  go_wp2
  go_loopw [8] (fun v8 wr => ∃ i xh xl qh ql rh rl : Nat, i ≤ 128 ∧ v8 = .int .i64 (i : Int) ∧ Own w wr [(w.heap.size + 1 + 1 + 1 + 1, 109, Uc qh ql), (w.heap.size + 1 + 1 + 1 + 1 + 1, 109, Uc rh rl), (w.heap.size, 109, Uc xh xl), (w.heap.size + 1, 109, Uc c d), (w.heap.size + 1 + 1, 109, Uc 0 0), (w.heap.size + 1 + 1 + 1, 109, Uc 0 0)] ∧
      Hid (DivSt (a * 18446744073709551616 + b) (c * 18446744073709551616 + d) i xh xl qh ql rh rl)) (fun v8 _ => 128 - (intOf v8).toNat)
  case atStart => exact ⟨0, a, b, 0, 0, 0, 0, by omega, rfl, X'.out, S0⟩
  case round =>
    obtain ⟨i, xh, xl, qh, ql, rh, rl, hi, rfl, Y, hst⟩ := hrel
    by_cases hlt : i < 128
    · have hx := hst.out.x
      have hr := hst.out.r
      have hq := hst.out.q
      obtain ⟨bit, hbit⟩ : ∃ bit : Nat, bit = xh / 9223372036854775808 := ⟨_, rfl⟩
      obtain ⟨ov, hov⟩ : ∃ ov : Nat, ov = rh / 9223372036854775808 := ⟨_, rfl⟩
      have e1 : (xh : Int) / 9223372036854775808 = (bit : Int) := e_div (a := 9223372036854775808) hbit
      have e2 : (rh : Int) / 9223372036854775808 = (ov : Int) := e_div (a := 9223372036854775808) hov
      have S1 := hide (fun W => r3shift_any xh xl 0 W hx.2 (by omega))
      have S2 := hide (fun W => r3shift_any rh rl bit W hr.2 (by omega))
      have S3 := hide (fun W => r3shift_any qh ql 0 W hq.2 (by omega))
      have HBO := hide (And.intro hbit hov)
      clear hx hr hq hbit hov
      have hh := Y.r6
      go_wp2_with fail
      refine (S1.out _).mono ?_
      rintro e w1 ⟨⟨xh', xl', rfl, hw1⟩, hb⟩
      have Y1 := (Y.to hb).rot3
      have Y2 := Y1.setU (h' := xh') (l' := xl') (by omega) (by simp <;> omega)
      rw [Nat.add_zero] at hw1
      have hw1 := hide hw1
      clear hb hh
      have hh := Y1.r6
      go_wp2_with fail
      refine (S2.out _).mono ?_
      rintro e w2 ⟨⟨rh', rl', rfl, hw2⟩, hb⟩
      have Y3 := (Y2.to hb).rot3
      have Y4 := Y3.setU (h' := rh') (l' := rl') (by omega) (by simp <;> omega)
      have hw2 := hide hw2
      clear hb hh Y1 Y2
      have hh := Y3.r6
      go_wp2_with fail
      refine (S3.out _).mono ?_
      rintro e w3 ⟨⟨qh', ql', rfl, hw3⟩, hb⟩
      have Y5 := (Y4.to hb).rot3
      have Y6 := Y5.setU (h' := qh') (l' := ql') (by omega) (by simp <;> omega)
      rw [Nat.add_zero] at hw3
      have hw3 := hide hw3
      clear hb hh Y3 Y4
      have hh := Y5.r6
      have ql3 := hw3.out.2.1
      by_cases ho : 0 < ov
      · as_aux_lemma =>
        have o1 : (0 : Int) < (ov : Int) := by omega
        have HO := hide ho
        clear ho
        go_wp2_with fail
        refine (MINUS.out _ _ _ hw2.out.1 hw2.out.2.1).mono ?_
        rintro e w4 ⟨⟨rh2, rl2, rfl, hw4⟩, hb⟩
        obtain ⟨S', hlt2⟩ := DivSt.high hst.out HB.out.1 HB.out.2.2 HB.out.2.1 hlt HBO.out.1 HBO.out.2 hw1.out hw2.out hw3.out (.inl HO.out) hw4 rfl
        have e3 : IntKind.u64.wrap ((ql' : Int) + 1) = ((ql' + 1 : Nat) : Int) := e_addw (y := 1) rfl hlt2
        obtain ⟨ql4, hql4⟩ : ∃ ql4 : Nat, ql4 = ql' + 1 := ⟨_, rfl⟩
        rw [← hql4] at e3 S'
        have S'' := hide S'
        have Y7 := (Y6.to hb).swap
        have Y8 := Y7.setU (h' := rh2) (l' := rl2) (by omega) (by simp <;> omega)
        have Y9 := Y8.swap.set0 (by omega) (by simp <;> omega) 1 (.int .u64 (ql4 : Int))
        clear hb hh Y5 Y6 hql4 hlt2 S' hw4
        have hh := Y7.r6
        go_wp2
        go_roundw
        case rel => exact ⟨i + 1, xh', xl', qh', ql4, rh2, rl2, by omega, by go_num, Y9, S''⟩
        case measure => simp [intOf]; omega
      · have o1 : ¬ (0 : Int) < (ov : Int) := by omega
        have o2 : ov = 0 := by omega
        have HO := hide o2
        clear ho o2
        by_cases hl : rh' * 18446744073709551616 + rl' < c * 18446744073709551616 + d
        · as_aux_lemma =>
          have L1 := hide (fun W => LESS.out rh' rl' W hw2.out.2.1)
          rw [decide_eq_true hl] at L1
          have S'' := hide (DivSt.low hst.out HB.out.1 HB.out.2.2 HB.out.2.1 hlt HBO.out.1 HBO.out.2 hw1.out hw2.out hw3.out HO.out hl)
          clear hl
          go_wp2_with fail
          refine (L1.out _).mono ?_
          rintro e w4 ⟨rfl, hb⟩
          have Y7 := Y6.to hb
          clear hb hh Y5 Y6
          have hh := Y7.r6
          go_wp2
          go_roundw
          case rel => exact ⟨i + 1, xh', xl', qh', ql', rh', rl', by omega, by go_num, Y7, S''⟩
          case measure => simp [intOf]; omega
        · as_aux_lemma =>
          have L1 := hide (fun W => LESS.out rh' rl' W hw2.out.2.1)
          rw [decide_eq_false hl] at L1
          have HL := hide hl
          clear hl
          go_wp2_with fail
          refine (L1.out _).mono ?_
          rintro e w4 ⟨rfl, hb⟩
          have Y6' := Y6.to hb
          clear hb hh Y5 Y6
          have hh := Y6'.r6
          go_wp2_with fail
          refine (MINUS.out _ _ _ hw2.out.1 hw2.out.2.1).mono ?_
          rintro e w5 ⟨⟨rh2, rl2, rfl, hw4⟩, hb⟩
          obtain ⟨S', hlt2⟩ := DivSt.high hst.out HB.out.1 HB.out.2.2 HB.out.2.1 hlt HBO.out.1 HBO.out.2 hw1.out hw2.out hw3.out (.inr (Nat.not_lt.1 HL.out)) hw4 rfl
          have e3 : IntKind.u64.wrap ((ql' : Int) + 1) = ((ql' + 1 : Nat) : Int) := e_addw (y := 1) rfl hlt2
          obtain ⟨ql4, hql4⟩ : ∃ ql4 : Nat, ql4 = ql' + 1 := ⟨_, rfl⟩
          rw [← hql4] at e3 S'
          have S'' := hide S'
          have Y7 := (Y6'.to hb).swap
          have Y8 := Y7.setU (h' := rh2) (l' := rl2) (by omega) (by simp <;> omega)
          have Y9 := Y8.swap.set0 (by omega) (by simp <;> omega) 1 (.int .u64 (ql4 : Int))
          clear hb hh Y6' hql4 hlt2 S' hw4
          have hh := Y7.r6
          go_wp2
          go_roundw
          case rel => exact ⟨i + 1, xh', xl', qh', ql4, rh2, rl2, by omega, by go_num, Y9, S''⟩
          case measure => simp [intOf]; omega
    · have e : i = 128 := by omega
      subst e
      have F := hide (And.intro hst.out.rel.fin (And.intro hst.out.q hst.out.r))
      have hh := Y.r6
      clear hst hlt
      go_wp2
      go_region
      go_wp2
      exact bodyPost_ret (v := .tuple #[Ud qh ql, Ud rh rl]) (by simp [results, Tryz.results119, hh, go_sem]) rfl ⟨⟨qh, ql, rh, rl, rfl, ⟨F.out.2.1.1, F.out.2.1.2, F.out.1.1⟩, ⟨F.out.2.2.1, F.out.2.2.2, F.out.1.2⟩⟩, by have HX := Y.1; have hz := HX.size; go_grown⟩
end Go.Proofs.YtbmocghfpcfmhaaGreatDoor

namespace Go.Proofs.YtbmocghfpcfmhaaGreatDoor
open Go.RowKit

abbrev Nd (h l : Nat) (s : Bool) : Value := .agg #[.int .u64 (h : Int), .int .u64 (l : Int), .bool s]
/-- the integer z is returned; nothing that was there is turned -/
def ZPost (z : Int) (w : World) (e : Ending) (w' : World) : Prop := (∃ h l : Nat, e = .returned (Nd h l (decide (z < 0))) ∧ Wd h l z.natAbs) ∧ Below w.heap.size w w'
theorem r3made_sign {h l : Nat} {z : Int} {s : Bool} (hw : Wd h l z.natAbs) (hs : z ≠ 0 → s = decide (z < 0)) : (s && !decide (h = 0 ∧ l = 0)) = decide (z < 0) := by
  obtain ⟨h1, h2, h3⟩ := hw
  by_cases hz : z = 0
  · subst hz
    have e : h = 0 ∧ l = 0 := by simp at h3; omega
    simp [e]
  · rw [hs hz]
    have e : ¬ (h = 0 ∧ l = 0) := by omega
    simp [e]
theorem ZPost.mk {z : Int} {h l : Nat} {s s' : Bool} {w w' : World} (hw : Wd h l z.natAbs) (h' : s' = (s && !decide (h = 0 ∧ l = 0))) (hs : z ≠ 0 → s = decide (z < 0)) (hb : Below w.heap.size w w') : ZPost z w (.returned (Nd h l s')) w' :=
  ⟨⟨h, l, by rw [h', r3made_sign hw hs], hw⟩, hb⟩
theorem Own.drewN3 {w W : World} {L : List (Nat × TypeId × Array Value)} (h : Own w W L) (n : Nat) : Own w (W.drewN n) L := ⟨⟨h.1.os, h.1.tape, h.1.output, h.1.size, h.1.block⟩, fun x hx => (h.2 x hx).drewN n⟩
set_option maxHeartbeats 1000000 in
theorem r3made_any (h l : Nat) (s : Bool) (w : World) :
    Calls Tryz.prog 121 #[Ud h l, .bool s] w fun e w' => (∃ s' : Bool, e = .returned (Nd h l s') ∧ s' = (s && !decide (h = 0 ∧ l = 0))) ∧ Below w.heap.size w w' := by
  have X := ((Own.start w).alloc (Uc h l) 109).alloc #[.int .u64 0, .int .u64 0, .bool false] 113
  simp only [World.size_alloc] at X
  have hr := X.r2
  have t : (s = false) ∨ (s = true ∧ h ≠ 0) ∨ (s = true ∧ h = 0 ∧ l ≠ 0) ∨ (s = true ∧ h = 0 ∧ l = 0) := by cases s <;> simp <;> omega
  rcases t with rfl | ⟨rfl, t1⟩ | ⟨rfl, rfl, t1⟩ | ⟨rfl, rfl, rfl⟩
  · go_enter Tryz.func121, Tryz.ntmps121
    go_wp2
    go_region
    all_goals go_wp2
    all_goals exact bodyPost_ret (v := Nd h l false) (by simp [results, Tryz.results121, go_sem]) rfl ⟨⟨_, rfl, by simp⟩, by have HX := X.1; have hz := HX.size; go_grown⟩
  · have q : ((h : Int) == 0) = false := by simp; omega
    have V := hide (show decide (h = 0 ∧ l = 0) = false by simp; omega)
    clear t1
    go_enter Tryz.func121, Tryz.ntmps121
    go_wp2
    go_region
    all_goals go_wp2
    all_goals exact bodyPost_ret (v := Nd h l true) (by simp [results, Tryz.results121, go_sem]) rfl ⟨⟨_, rfl, by rw [V.out]; rfl⟩, by have HX := X.1; have hz := HX.size; go_grown⟩
  · have q : ((l : Int) == 0) = false := by simp; omega
    have V := hide (show decide ((0 : Nat) = 0 ∧ l = 0) = false by simp; omega)
    clear t1
    go_enter Tryz.func121, Tryz.ntmps121
    go_wp2
    go_region
    all_goals go_wp2
    all_goals exact bodyPost_ret (v := Nd 0 l true) (by simp [results, Tryz.results121, go_sem]) rfl ⟨⟨_, rfl, by rw [V.out]; rfl⟩, by have HX := X.1; have hz := HX.size; go_grown⟩
  · go_enter Tryz.func121, Tryz.ntmps121
    go_wp2
    go_region
    all_goals go_wp2
    all_goals exact bodyPost_ret (v := Nd 0 0 false) (by simp [results, Tryz.results121, go_sem]) rfl ⟨⟨_, rfl, by simp⟩, by have HX := X.1; have hz := HX.size; go_grown⟩
set_option maxHeartbeats 1000000 in
theorem r3ofint_any (n : Int) (w : World) (hn : -9223372036854775808 ≤ n ∧ n ≤ 9223372036854775807) :
    Calls Tryz.prog 71 #[.int .i64 n] w (ZPost n w) := by
  have X := (Own.start w).alloc #[.int .u64 0, .int .u64 0, .bool false] 113
  have hr := X.r1
  obtain ⟨m, hm⟩ : ∃ m : Nat, n.natAbs = m := ⟨_, rfl⟩
  have S := hide (fun W => r3size_any n m W hm (by omega))
  have V := hide (show Wd 0 m n.natAbs from ⟨by omega, by omega, by omega⟩)
  clear hn hm
  by_cases t : n < 0
  all_goals
    have E := hide t
    go_enter Tryz.func71, Tryz.ntmps71
    go_wp2_with fail
    refine (S.out _).mono ?_
    rintro e w1 ⟨rfl, rfl⟩
    go_wp2_with fail
  · refine (r3made_any 0 m _ _).mono ?_
    rintro e w1 ⟨⟨s', rfl, hs⟩, hb⟩
    replace X := X.to hb
    have HG := hide hs
    clear hb hr hs
    have hr := X.r1
    go_wp2
    exact bodyPost_ret (v := Nd 0 m s') (by simp [results, Tryz.results71, hr, go_sem]) rfl (ZPost.mk (s := true) V.out (HG.out.trans (by simp)) (fun _ => by have := E.out; simp; omega) (by have HX := X.1; have hz := HX.size; go_grown))
  · refine (r3made_any 0 m _ _).mono ?_
    rintro e w1 ⟨⟨s', rfl, hs⟩, hb⟩
    replace X := X.to hb
    have HG := hide hs
    clear hb hr hs
    have hr := X.r1
    go_wp2
    exact bodyPost_ret (v := Nd 0 m s') (by simp [results, Tryz.results71, hr, go_sem]) rfl (ZPost.mk (s := false) V.out (HG.out.trans (by have := E.out; simp; omega)) (fun _ => by have := E.out; simp; omega) (by have HX := X.1; have hz := HX.size; go_grown))
theorem sign_mul {a b : Int} (h : a * b ≠ 0) : (decide (a < 0) != decide (b < 0)) = decide (a * b < 0) := by
  have ha : a ≠ 0 := fun e => h (by rw [e, Int.zero_mul])
  have hb : b ≠ 0 := fun e => h (by rw [e, Int.mul_zero])
  rcases Int.lt_or_gt_of_ne ha with x | x <;> rcases Int.lt_or_gt_of_ne hb with y | y
  · have := Int.mul_pos_of_neg_of_neg x y
    have e1 : ¬ a * b < 0 := by omega
    simp [x, y, e1]
  · have := Int.mul_neg_of_neg_of_pos x y
    have e1 : ¬ b < 0 := by omega
    simp [x, e1, this]
  · have := Int.mul_neg_of_pos_of_neg x y
    have e1 : ¬ a < 0 := by omega
    simp [y, e1, this]
  · have := Int.mul_pos x y
    have e1 : ¬ a < 0 := by omega
    have e2 : ¬ b < 0 := by omega
    have e3 : ¬ a * b < 0 := by omega
    simp [e1, e2, e3]
set_option maxHeartbeats 1000000 in
theorem r3times_any (a b : Int) (w : World) (ha : -9223372036854775808 ≤ a ∧ a ≤ 9223372036854775807) (hb : -9223372036854775808 ≤ b ∧ b ≤ 9223372036854775807) :
    Calls Tryz.prog 70 #[.int .i64 a, .int .i64 b] w (ZPost (a * b) w) := by
  have X := (Own.start w).alloc #[.int .u64 0, .int .u64 0, .bool false] 113
  have hr := X.r1
  obtain ⟨m, hm⟩ : ∃ m : Nat, a.natAbs = m := ⟨_, rfl⟩
  obtain ⟨n, hn⟩ : ∃ n : Nat, b.natAbs = n := ⟨_, rfl⟩
  have S1 := hide (fun W => r3size_any a m W hm (by omega))
  have S2 := hide (fun W => r3size_any b n W hn (by omega))
  have M := hide (fun W => r3mul_any m n W (by omega) (by omega))
  have V := hide (show (a * b).natAbs = m * n by rw [Int.natAbs_mul, hm, hn])
  have SG := hide (fun h => sign_mul (a := a) (b := b) h)
  clear ha hb hm hn
  generalize a * b = z at *
  rcases Int.lt_or_le a 0 with t1 | t1 <;> rcases Int.lt_or_le b 0 with t2 | t2
  · have EE := hide (And.intro (show decide (a < 0) = true from decide_eq_true t1) (show decide (b < 0) = true from decide_eq_true t2))
    go_enter Tryz.func70, Tryz.ntmps70
    go_wp2_with fail
    refine (S1.out _).mono ?_
    rintro e w1 ⟨rfl, rfl⟩
    go_wp2_with fail
    refine (S2.out _).mono ?_
    rintro e w1 ⟨rfl, rfl⟩
    go_wp2_with fail
    refine (M.out _).mono ?_
    rintro e w1 ⟨⟨h, l, rfl, hw⟩, hb⟩
    replace X := X.to hb
    rw [← V.out] at hw
    have HW := hide hw
    clear hb hr hw
    have hr := X.r1
    go_wp2_with fail
    refine (r3made_any h l _ _).mono ?_
    rintro e w1 ⟨⟨s', rfl, hs⟩, hb⟩
    replace X := X.to hb
    have HG := hide hs
    clear hb hr hs
    have hr := X.r1
    go_wp2
    exact bodyPost_ret (v := Nd h l s') (by simp [results, Tryz.results70, hr, go_sem]) rfl (ZPost.mk HW.out (HG.out.trans (by rw [EE.out.1, EE.out.2]; rfl)) SG.out (by have HX := X.1; have hz := HX.size; go_grown))
  · have EE := hide (And.intro (show decide (a < 0) = true from decide_eq_true t1) (show decide (b < 0) = false from decide_eq_false (by omega)))
    go_enter Tryz.func70, Tryz.ntmps70
    go_wp2_with fail
    refine (S1.out _).mono ?_
    rintro e w1 ⟨rfl, rfl⟩
    go_wp2_with fail
    refine (S2.out _).mono ?_
    rintro e w1 ⟨rfl, rfl⟩
    go_wp2_with fail
    refine (M.out _).mono ?_
    rintro e w1 ⟨⟨h, l, rfl, hw⟩, hb⟩
    replace X := X.to hb
    rw [← V.out] at hw
    have HW := hide hw
    clear hb hr hw
    have hr := X.r1
    go_wp2_with fail
    refine (r3made_any h l _ _).mono ?_
    rintro e w1 ⟨⟨s', rfl, hs⟩, hb⟩
    replace X := X.to hb
    have HG := hide hs
    clear hb hr hs
    have hr := X.r1
    go_wp2
    exact bodyPost_ret (v := Nd h l s') (by simp [results, Tryz.results70, hr, go_sem]) rfl (ZPost.mk HW.out (HG.out.trans (by rw [EE.out.1, EE.out.2]; rfl)) SG.out (by have HX := X.1; have hz := HX.size; go_grown))
  · have EE := hide (And.intro (show decide (a < 0) = false from decide_eq_false (by omega)) (show decide (b < 0) = true from decide_eq_true t2))
    go_enter Tryz.func70, Tryz.ntmps70
    go_wp2_with fail
    refine (S1.out _).mono ?_
    rintro e w1 ⟨rfl, rfl⟩
    go_wp2_with fail
    refine (S2.out _).mono ?_
    rintro e w1 ⟨rfl, rfl⟩
    go_wp2_with fail
    refine (M.out _).mono ?_
    rintro e w1 ⟨⟨h, l, rfl, hw⟩, hb⟩
    replace X := X.to hb
    rw [← V.out] at hw
    have HW := hide hw
    clear hb hr hw
    have hr := X.r1
    go_wp2_with fail
    refine (r3made_any h l _ _).mono ?_
    rintro e w1 ⟨⟨s', rfl, hs⟩, hb⟩
    replace X := X.to hb
    have HG := hide hs
    clear hb hr hs
    have hr := X.r1
    go_wp2
    exact bodyPost_ret (v := Nd h l s') (by simp [results, Tryz.results70, hr, go_sem]) rfl (ZPost.mk HW.out (HG.out.trans (by rw [EE.out.1, EE.out.2]; rfl)) SG.out (by have HX := X.1; have hz := HX.size; go_grown))
  · have EE := hide (And.intro (show decide (a < 0) = false from decide_eq_false (by omega)) (show decide (b < 0) = false from decide_eq_false (by omega)))
    go_enter Tryz.func70, Tryz.ntmps70
    go_wp2_with fail
    refine (S1.out _).mono ?_
    rintro e w1 ⟨rfl, rfl⟩
    go_wp2_with fail
    refine (S2.out _).mono ?_
    rintro e w1 ⟨rfl, rfl⟩
    go_wp2_with fail
    refine (M.out _).mono ?_
    rintro e w1 ⟨⟨h, l, rfl, hw⟩, hb⟩
    replace X := X.to hb
    rw [← V.out] at hw
    have HW := hide hw
    clear hb hr hw
    have hr := X.r1
    go_wp2_with fail
    refine (r3made_any h l _ _).mono ?_
    rintro e w1 ⟨⟨s', rfl, hs⟩, hb⟩
    replace X := X.to hb
    have HG := hide hs
    clear hb hr hs
    have hr := X.r1
    go_wp2
    exact bodyPost_ret (v := Nd h l s') (by simp [results, Tryz.results70, hr, go_sem]) rfl (ZPost.mk HW.out (HG.out.trans (by rw [EE.out.1, EE.out.2]; rfl)) SG.out (by have HX := X.1; have hz := HX.size; go_grown))
set_option maxHeartbeats 1000000 in
theorem r3opp_any (h l : Nat) (z : Int) (w : World) (hw : Wd h l z.natAbs) :
    Calls Tryz.prog 123 #[Nd h l (decide (z < 0))] w (ZPost (-z) w) := by
  have X := ((Own.start w).alloc #[.int .u64 (h : Int), .int .u64 (l : Int), .bool (decide (z < 0))] 113).alloc #[.int .u64 0, .int .u64 0, .bool false] 113
  simp only [World.size_alloc] at X
  have V := hide (show Wd h l (-z).natAbs by rw [Int.natAbs_neg]; exact hw)
  have SG := hide (show -z ≠ 0 → (!decide (z < 0)) = decide (-z < 0) from fun h => by
    by_cases t : z < 0
    · have t' : ¬ -z < 0 := by omega
      rw [decide_eq_true t, decide_eq_false t']; rfl
    · have t' : -z < 0 := by omega
      rw [decide_eq_false t, decide_eq_true t']; rfl)
  clear hw
  generalize decide (z < 0) = s at *
  have hr := X.r2
  go_enter Tryz.func123, Tryz.ntmps123
  go_wp2_with fail
  refine (r3made_any h l (!s) _).mono ?_
  rintro e w1 ⟨⟨s', rfl, hs⟩, hb⟩
  replace X := X.to hb
  have HG := hide hs
  clear hb hr hs
  have hr := X.r2
  go_wp2
  exact bodyPost_ret (v := Nd h l s') (by simp [results, Tryz.results123, hr, go_sem]) rfl (ZPost.mk V.out HG.out SG.out (by have HX := X.1; have hz := HX.size; go_grown))
def fitsI (z : Int) : Bool := decide (-9223372036854775808 ≤ z ∧ z ≤ 9223372036854775807)
def ZIntPost (z : Int) (w : World) (e : Ending) (w' : World) : Prop := (∃ v : Int, e = .returned (.tuple #[.int .i64 v, .bool (fitsI z)]) ∧ (fitsI z = true → v = z)) ∧ Below w.heap.size w w'
theorem ZIntPost.mk {z v : Int} {b : Bool} {w w' : World} (h1 : fitsI z = b) (h2 : b = true → v = z) (hb : Below w.heap.size w w') : ZIntPost z w (.returned (.tuple #[.int .i64 v, .bool b])) w' := by
  subst h1; exact ⟨⟨v, rfl, h2⟩, hb⟩
set_option maxRecDepth 100000 in
set_option maxHeartbeats 1000000 in
theorem r3isint_any (h l : Nat) (z : Int) (w : World) (hw : Wd h l z.natAbs) :
    Calls Tryz.prog 68 #[Nd h l (decide (z < 0))] w (ZIntPost z w) := by
  have X := (Own.start w).alloc #[.int .u64 (h : Int), .int .u64 (l : Int), .bool (decide (z < 0))] 113
  obtain ⟨w1, w2, w3⟩ := hw
  obtain ⟨m, hm⟩ : ∃ m : Nat, (m : Int) = IntKind.u64.wrap (0 - (l : Int)) := ⟨(IntKind.u64.wrap (0 - (l : Int))).toNat, by rw [IntKind.wrap_u64]; omega⟩
  have e1 : IntKind.u64.wrap (0 - (l : Int)) = (m : Int) := hm.symm
  have e1' : IntKind.u64.wrap (-(l : Int)) = (m : Int) := by rw [← e1]; congr 1; omega
  rw [IntKind.wrap_u64] at hm
  obtain ⟨v, hv⟩ : ∃ v : Int, IntKind.i64.wrap (m : Int) = v := ⟨_, rfl⟩
  obtain ⟨u, hu⟩ : ∃ u : Int, IntKind.i64.wrap (l : Int) = u := ⟨_, rfl⟩
  have hv' := hv
  have hu' := hu
  rw [IntKind.wrap_i64] at hv' hu'
  have t : (h ≠ 0) ∨ (h = 0 ∧ 9223372036854775808 < l) ∨ (h = 0 ∧ l ≤ 9223372036854775808) := by omega
  by_cases s : z < 0
  · rw [decide_eq_true s] at X ⊢
    have hr := X.r1
    rcases t with t | ⟨rfl, t⟩ | ⟨rfl, t⟩
    · have q : ((h : Int) == 0) = false := by simp; omega
      have V := hide (show fitsI z = false from decide_eq_false (by omega))
      clear t w1 w2 w3 hm hv' hu' s
      go_enter Tryz.func68, Tryz.ntmps68
      go_wp2
      go_quiet (fail)
      go_wp2
      go_ret2
      exact ZIntPost.mk V.out (fun h => by cases h) ((X.drewN3 nq).1)
    · have q : decide ((l : Int) ≤ 9223372036854775808) = false := decide_eq_false (by omega)
      have V := hide (show fitsI z = false from decide_eq_false (by omega))
      clear t w1 w2 w3 hm hv' hu' s
      go_enter Tryz.func68, Tryz.ntmps68
      go_wp2
      go_quiet (fail)
      go_wp2
      go_ret2
      exact ZIntPost.mk V.out (fun h => by cases h) ((X.drewN3 nq).1)
    · have q : decide ((l : Int) ≤ 9223372036854775808) = true := decide_eq_true (by omega)
      have V := hide (show fitsI z = true from decide_eq_true (by omega))
      have V2 := hide (show v = z by omega)
      clear t w1 w2 w3 hm hv' hu' s
      go_enter Tryz.func68, Tryz.ntmps68
      go_wp2
      go_quiet (fail)
      go_wp2
      go_ret2
      exact ZIntPost.mk V.out (fun _ => V2.out) ((X.drewN3 nq).1)
  · rw [decide_eq_false s] at X ⊢
    have hr := X.r1
    have t' : (h ≠ 0) ∨ (h = 0 ∧ 9223372036854775808 ≤ l) ∨ (h = 0 ∧ l < 9223372036854775808) := by omega
    clear t
    rcases t' with t | ⟨rfl, t⟩ | ⟨rfl, t⟩
    · have q : ((h : Int) == 0) = false := by simp; omega
      have V := hide (show fitsI z = false from decide_eq_false (by omega))
      clear t w1 w2 w3 hm hv' hu' s
      go_enter Tryz.func68, Tryz.ntmps68
      go_wp2
      go_quiet (fail)
      go_wp2
      go_ret2
      exact ZIntPost.mk V.out (fun h => by cases h) ((X.drewN3 nq).1)
    · have q : decide ((l : Int) < 9223372036854775808) = false := decide_eq_false (by omega)
      have V := hide (show fitsI z = false from decide_eq_false (by omega))
      clear t w1 w2 w3 hm hv' hu' s
      go_enter Tryz.func68, Tryz.ntmps68
      go_wp2
      go_quiet (fail)
      go_wp2
      go_ret2
      exact ZIntPost.mk V.out (fun h => by cases h) ((X.drewN3 nq).1)
    · have q : decide ((l : Int) < 9223372036854775808) = true := decide_eq_true (by omega)
      have V := hide (show fitsI z = true from decide_eq_true (by omega))
      have V2 := hide (show u = z by omega)
      clear t w1 w2 w3 hm hv' hu' s
      go_enter Tryz.func68, Tryz.ntmps68
      go_wp2
      go_quiet (fail)
      go_wp2
      go_ret2
      exact ZIntPost.mk V.out (fun _ => V2.out) ((X.drewN3 nq).1)
end Go.Proofs.YtbmocghfpcfmhaaGreatDoor

namespace Go.Proofs.YtbmocghfpcfmhaaGreatDoor
open Go.RowKit

/-- floor (x / y), of magnitudes and signs -/
def fdv (x y : Int) : Int := if x < 0 ↔ y < 0 then ((x.natAbs / y.natAbs : Nat) : Int) else -(((x.natAbs / y.natAbs) + (if x.natAbs % y.natAbs = 0 then 0 else 1) : Nat) : Int)
def cdv (x y : Int) : Int := -fdv (-x) y
theorem fdv_pos {x y : Int} (h : 0 < y) : fdv x y = x / y := by
  obtain ⟨Y, rfl⟩ : ∃ Y : Nat, y = (Y : Int) := ⟨y.toNat, by omega⟩
  have hY : ¬ ((Y : Int) < 0) := by omega
  have hY0 : 0 < Y := by omega
  unfold fdv
  by_cases hx : x < 0
  · obtain ⟨X, rfl⟩ : ∃ X : Nat, x = -(X : Int) := ⟨(-x).toNat, by omega⟩
    rw [if_neg (by simp only [hx, hY]; simp), Int.natAbs_neg, Int.natAbs_natCast, Int.natAbs_natCast]
    have e := Nat.div_add_mod X Y
    have m := Nat.mod_lt X hY0
    generalize X / Y = q at *
    generalize X % Y = r at *
    symm
    by_cases hr : r = 0
    · rw [if_pos hr]
      refine ((Int.ediv_emod_unique h (q := -((q + 0 : Nat) : Int)) (r := 0)).2 ⟨?_, by omega, by omega⟩).1
      subst hr; rw [← e]; simp only [Nat.add_zero, Int.natCast_mul]; grind
    · rw [if_neg hr]
      refine ((Int.ediv_emod_unique h (q := -((q + 1 : Nat) : Int)) (r := (Y : Int) - r)).2 ⟨?_, by omega, by omega⟩).1
      rw [← e, Int.natCast_add, Int.natCast_add, Int.natCast_mul]; grind
  · rw [if_pos (by simp only [hx, hY])]
    obtain ⟨X, rfl⟩ : ∃ X : Nat, x = (X : Int) := ⟨x.toNat, by omega⟩
    rw [Int.natAbs_natCast, Int.natAbs_natCast, Int.natCast_ediv]
theorem cdv_pos {x y : Int} (h : 0 < y) : cdv x y = -((-x) / y) := by unfold cdv; rw [fdv_pos h]
/-- a size, and the sign where the integer is not 0 -/
def NS (z : Int) (n : Nat) (s : Bool) : Prop := z.natAbs = n ∧ (z ≠ 0 → s = decide (z < 0))
theorem ZPost.ns {z : Int} {h l n : Nat} {s s' : Bool} {w w' : World} (hn : NS z n s) (hw : Wd h l n) (h' : s' = (s && !decide (h = 0 ∧ l = 0))) (hb : Below w.heap.size w w') : ZPost z w (.returned (Nd h l s')) w' :=
  ZPost.mk (by rw [hn.1]; exact hw) h' hn.2 hb
/-- the parts of a quotient: the same sign, or another one, with and without a rest -/
theorem fdv_cases (x y : Int) (Q R : Nat) (hQ : Q = x.natAbs / y.natAbs) (hR : R = x.natAbs % y.natAbs) :
    (decide (x < 0) = decide (y < 0) → NS (fdv x y) Q false) ∧ (decide (x < 0) ≠ decide (y < 0) → R = 0 → NS (fdv x y) Q true) ∧ (decide (x < 0) ≠ decide (y < 0) → R ≠ 0 → NS (fdv x y) (Q + 1) true) := by
  unfold fdv
  rw [← hQ, ← hR]
  refine ⟨fun h => ?_, fun h h' => ?_, fun h h' => ?_⟩
  · rw [if_pos (by simpa using h)]
    refine ⟨Int.natAbs_natCast _, fun _ => (decide_eq_false (by omega)).symm⟩
  · rw [if_neg (by simpa using h), if_pos h']
    refine ⟨by rw [Int.natAbs_neg]; rfl, fun hn => (decide_eq_true (by omega)).symm⟩
  · rw [if_neg (by simpa using h), if_neg h']
    refine ⟨by rw [Int.natAbs_neg]; rfl, fun hn => (decide_eq_true (by omega)).symm⟩
theorem fdv_small {X Y Q R : Nat} (hQ : X / Y = Q) (hR : X % Y = R) (hX : X < 340282366920938463463374607431768211456) (hz : R ≠ 0) : Q + 1 < 340282366920938463463374607431768211456 := by
  have : Y ≠ 1 := fun h => hz (by rw [← hR, h, Nat.mod_one])
  rcases Nat.eq_zero_or_pos Y with h | h
  · subst h; rw [Nat.div_zero] at hQ; omega
  · have h2 : X / Y ≤ X / 2 := Nat.div_le_div_left (by omega) (by omega)
    omega
theorem wd_eq {h l x y : Nat} (h1 : Wd h l x) (h2 : x = y) : Wd h l y := h2 ▸ h1
theorem wd_zero {h l x : Nat} (h1 : Wd h l x) : (h = 0 ∧ l = 0) ↔ x = 0 := by obtain ⟨_, _, h3⟩ := h1; omega
theorem wd_one {h l a b x : Nat} (h1 : Wd h l ((a * 18446744073709551616 + b + (0 * 18446744073709551616 + 1)) % 340282366920938463463374607431768211456)) (h2 : Wd a b x) (hx : x + 1 < 340282366920938463463374607431768211456) : Wd h l (x + 1) := by
  obtain ⟨p, q, r⟩ := h1
  obtain ⟨s, t, u⟩ := h2
  refine ⟨p, q, ?_⟩
  rw [r, Nat.zero_mul, Nat.zero_add, u, Nat.mod_eq_of_lt hx]
set_option maxRecDepth 100000 in
set_option maxHeartbeats 4000000 in
theorem r3down_ff (xh xl yh yl : Nat) (x y : Int) (w : World) (hx : Wd xh xl x.natAbs) (hy : Wd yh yl y.natAbs) (h0 : y ≠ 0) (sx : decide (x < 0) = false) (sy : decide (y < 0) = false) :
    Calls Tryz.prog 69 #[Nd xh xl false, Nd yh yl false] w (ZPost (fdv x y) w) := by
  have X := (((Own.start w).alloc #[.int .u64 (xh : Int), .int .u64 (xl : Int), .bool false] 113).alloc #[.int .u64 (yh : Int), .int .u64 (yl : Int), .bool false] 113).alloc #[.int .u64 0, .int .u64 0, .bool false] 113
  simp only [World.size_alloc] at X
  have D := hide (fun W => r3div_any xh xl yh yl W hx.1 hx.2.1 hy.1 hy.2.1 (by rw [hy.2.2]; omega))
  rw [hx.2.2, hy.2.2] at D
  have FC := hide (fdv_cases x y _ _ rfl rfl)
  rw [sx, sy] at FC
  have FC1 := hide (FC.out.1 rfl)
  clear FC
  have ZB := hide (show x.natAbs < 340282366920938463463374607431768211456 from by have := wd_lt hx.1 hx.2.1; have := hx.2.2; omega)
  clear hx hy h0 sx sy
  generalize hQ : x.natAbs / y.natAbs = Q at *
  generalize hR : x.natAbs % y.natAbs = R at *
  have QR := hide (And.intro hQ hR)
  clear hQ hR
  have hr := X.r3
  go_enter Tryz.func69, Tryz.ntmps69
  go_wp2_with fail
  refine (D.out _).mono ?_
  rintro e w1 ⟨⟨qh, ql, rh, rl, rfl, hq, hrr⟩, hb⟩
  have Z1 : w.heap.size + 1 + 1 < w1.heap.size := (X.to hb).r1.2.2
  replace X := ((X.to hb).alloc (Uc qh ql) 109).alloc (Uc rh rl) 109
  simp only [World.size_alloc] at X
  have HQ := hide hq
  have HR := hide hrr
  clear hb hr hq hrr
  have hr := X.r5
  go_wp2_with fail
  refine (r3made_any qh ql _ _).mono ?_
  rintro e w3 ⟨⟨s', rfl, hs⟩, hb⟩
  replace X := X.to hb
  have HG := hide hs
  clear hb hr hs
  have hr := X.r5
  go_wp2
  exact bodyPost_ret (v := Nd qh ql s') (by simp [results, Tryz.results69, hr, go_sem]) rfl (ZPost.ns FC1.out HQ.out (HG.out.trans (by first | rfl | simp)) (by have HX := X.1; have hz := HX.size; go_grown))
set_option maxRecDepth 100000 in
set_option maxHeartbeats 4000000 in
theorem r3down_tt (xh xl yh yl : Nat) (x y : Int) (w : World) (hx : Wd xh xl x.natAbs) (hy : Wd yh yl y.natAbs) (h0 : y ≠ 0) (sx : decide (x < 0) = true) (sy : decide (y < 0) = true) :
    Calls Tryz.prog 69 #[Nd xh xl true, Nd yh yl true] w (ZPost (fdv x y) w) := by
  have X := (((Own.start w).alloc #[.int .u64 (xh : Int), .int .u64 (xl : Int), .bool true] 113).alloc #[.int .u64 (yh : Int), .int .u64 (yl : Int), .bool true] 113).alloc #[.int .u64 0, .int .u64 0, .bool false] 113
  simp only [World.size_alloc] at X
  have D := hide (fun W => r3div_any xh xl yh yl W hx.1 hx.2.1 hy.1 hy.2.1 (by rw [hy.2.2]; omega))
  rw [hx.2.2, hy.2.2] at D
  have FC := hide (fdv_cases x y _ _ rfl rfl)
  rw [sx, sy] at FC
  have FC1 := hide (FC.out.1 rfl)
  clear FC
  have ZB := hide (show x.natAbs < 340282366920938463463374607431768211456 from by have := wd_lt hx.1 hx.2.1; have := hx.2.2; omega)
  clear hx hy h0 sx sy
  generalize hQ : x.natAbs / y.natAbs = Q at *
  generalize hR : x.natAbs % y.natAbs = R at *
  have QR := hide (And.intro hQ hR)
  clear hQ hR
  have hr := X.r3
  go_enter Tryz.func69, Tryz.ntmps69
  go_wp2_with fail
  refine (D.out _).mono ?_
  rintro e w1 ⟨⟨qh, ql, rh, rl, rfl, hq, hrr⟩, hb⟩
  have Z1 : w.heap.size + 1 + 1 < w1.heap.size := (X.to hb).r1.2.2
  replace X := ((X.to hb).alloc (Uc qh ql) 109).alloc (Uc rh rl) 109
  simp only [World.size_alloc] at X
  have HQ := hide hq
  have HR := hide hrr
  clear hb hr hq hrr
  have hr := X.r5
  go_wp2_with fail
  refine (r3made_any qh ql _ _).mono ?_
  rintro e w3 ⟨⟨s', rfl, hs⟩, hb⟩
  replace X := X.to hb
  have HG := hide hs
  clear hb hr hs
  have hr := X.r5
  go_wp2
  exact bodyPost_ret (v := Nd qh ql s') (by simp [results, Tryz.results69, hr, go_sem]) rfl (ZPost.ns FC1.out HQ.out (HG.out.trans (by first | rfl | simp)) (by have HX := X.1; have hz := HX.size; go_grown))
set_option maxRecDepth 100000 in
set_option maxHeartbeats 4000000 in
theorem r3down_ft (xh xl yh yl : Nat) (x y : Int) (w : World) (hx : Wd xh xl x.natAbs) (hy : Wd yh yl y.natAbs) (h0 : y ≠ 0) (sx : decide (x < 0) = false) (sy : decide (y < 0) = true) :
    Calls Tryz.prog 69 #[Nd xh xl false, Nd yh yl true] w (ZPost (fdv x y) w) := by
  have X := (((Own.start w).alloc #[.int .u64 (xh : Int), .int .u64 (xl : Int), .bool false] 113).alloc #[.int .u64 (yh : Int), .int .u64 (yl : Int), .bool true] 113).alloc #[.int .u64 0, .int .u64 0, .bool false] 113
  simp only [World.size_alloc] at X
  have D := hide (fun W => r3div_any xh xl yh yl W hx.1 hx.2.1 hy.1 hy.2.1 (by rw [hy.2.2]; omega))
  rw [hx.2.2, hy.2.2] at D
  have FC := hide (fdv_cases x y _ _ rfl rfl)
  rw [sx, sy] at FC
  replace FC := hide (FC.out.2.imp (fun h => h (by decide)) (fun h => h (by decide)))
  have ZB := hide (show x.natAbs < 340282366920938463463374607431768211456 from by have := wd_lt hx.1 hx.2.1; have := hx.2.2; omega)
  clear hx hy h0 sx sy
  generalize hQ : x.natAbs / y.natAbs = Q at *
  generalize hR : x.natAbs % y.natAbs = R at *
  have QR := hide (And.intro hQ hR)
  clear hQ hR
  have hr := X.r3
  go_enter Tryz.func69, Tryz.ntmps69
  go_wp2_with fail
  refine (D.out _).mono ?_
  rintro e w1 ⟨⟨qh, ql, rh, rl, rfl, hq, hrr⟩, hb⟩
  have Z1 : w.heap.size + 1 + 1 < w1.heap.size := (X.to hb).r1.2.2
  replace X := ((X.to hb).alloc (Uc qh ql) 109).alloc (Uc rh rl) 109
  simp only [World.size_alloc] at X
  have HQ := hide hq
  have HR := hide hrr
  clear hb hr hq hrr
  have hr := X.r5
  by_cases z : R = 0
  · obtain ⟨z1, z2⟩ := (wd_zero HR.out).2 z
    have zq : ((rh : Int) == 0) = true := by simp; omega
    have zq' : ((rl : Int) == 0) = true := by simp; omega
    clear z1 z2
    have NZ := hide (FC.out.1 z)
    clear z
    go_wp2_with fail
    refine (r3made_any qh ql _ _).mono ?_
    rintro e w3 ⟨⟨s', rfl, hs⟩, hb⟩
    replace X := X.to hb
    have HG := hide hs
    clear hb hr hs
    have hr := X.r5
    go_wp2
    exact bodyPost_ret (v := Nd qh ql s') (by simp [results, Tryz.results69, hr, go_sem]) rfl (ZPost.ns NZ.out HQ.out (HG.out.trans (by first | rfl | simp)) (by have HX := X.1; have hz := HX.size; go_grown))
  · have z' : (rh ≠ 0) ∨ (rh = 0 ∧ rl ≠ 0) := by
      have : ¬ (rh = 0 ∧ rl = 0) := fun k => z ((wd_zero HR.out).1 k)
      clear hr
      omega
    have NZ := hide (FC.out.2 z)
    have SM := hide (fdv_small QR.out.1 QR.out.2 ZB.out z)
    have P := hide (fun W => r3plus_any qh ql 0 1 W HQ.out.2.1 (by omega))
    clear z
    rcases z' with z | ⟨z0, z⟩
    · have zq : ((rh : Int) == 0) = false := by simp; omega
      clear z
      go_wp2_with fail
      refine (P.out _).mono ?_
      rintro e w2 ⟨⟨ph, pl, rfl, hp⟩, hb⟩
      have HP := hide hp
      have Y := (X.to hb).swap
      have X := (Y.setU (h' := ph) (l' := pl) (by omega) (by simp <;> omega)).swap
      clear hb hr hp zq
      have hr := Y.r5
      go_wp2_with fail
      refine (r3made_any ph pl _ _).mono ?_
      rintro e w3 ⟨⟨s', rfl, hs⟩, hb⟩
      replace X := X.to hb
      have HG := hide hs
      clear hb hr hs
      have hr := X.r5
      go_wp2
      exact bodyPost_ret (v := Nd ph pl s') (by simp [results, Tryz.results69, hr, go_sem]) rfl (ZPost.ns NZ.out (wd_one HP.out HQ.out SM.out) (HG.out.trans (by first | rfl | simp)) (by have HX := X.1; have hz := HX.size; go_grown))
    · have zr : ((rh : Int) == 0) = true := by simp; omega
      clear z0
      have zq : ((rl : Int) == 0) = false := by simp; omega
      clear z
      go_wp2_with fail
      refine (P.out _).mono ?_
      rintro e w2 ⟨⟨ph, pl, rfl, hp⟩, hb⟩
      have HP := hide hp
      have Y := (X.to hb).swap
      have X := (Y.setU (h' := ph) (l' := pl) (by omega) (by simp <;> omega)).swap
      clear hb hr hp zq zr
      have hr := Y.r5
      go_wp2_with fail
      refine (r3made_any ph pl _ _).mono ?_
      rintro e w3 ⟨⟨s', rfl, hs⟩, hb⟩
      replace X := X.to hb
      have HG := hide hs
      clear hb hr hs
      have hr := X.r5
      go_wp2
      exact bodyPost_ret (v := Nd ph pl s') (by simp [results, Tryz.results69, hr, go_sem]) rfl (ZPost.ns NZ.out (wd_one HP.out HQ.out SM.out) (HG.out.trans (by first | rfl | simp)) (by have HX := X.1; have hz := HX.size; go_grown))
set_option maxRecDepth 100000 in
set_option maxHeartbeats 4000000 in
theorem r3down_tf (xh xl yh yl : Nat) (x y : Int) (w : World) (hx : Wd xh xl x.natAbs) (hy : Wd yh yl y.natAbs) (h0 : y ≠ 0) (sx : decide (x < 0) = true) (sy : decide (y < 0) = false) :
    Calls Tryz.prog 69 #[Nd xh xl true, Nd yh yl false] w (ZPost (fdv x y) w) := by
  have X := (((Own.start w).alloc #[.int .u64 (xh : Int), .int .u64 (xl : Int), .bool true] 113).alloc #[.int .u64 (yh : Int), .int .u64 (yl : Int), .bool false] 113).alloc #[.int .u64 0, .int .u64 0, .bool false] 113
  simp only [World.size_alloc] at X
  have D := hide (fun W => r3div_any xh xl yh yl W hx.1 hx.2.1 hy.1 hy.2.1 (by rw [hy.2.2]; omega))
  rw [hx.2.2, hy.2.2] at D
  have FC := hide (fdv_cases x y _ _ rfl rfl)
  rw [sx, sy] at FC
  replace FC := hide (FC.out.2.imp (fun h => h (by decide)) (fun h => h (by decide)))
  have ZB := hide (show x.natAbs < 340282366920938463463374607431768211456 from by have := wd_lt hx.1 hx.2.1; have := hx.2.2; omega)
  clear hx hy h0 sx sy
  generalize hQ : x.natAbs / y.natAbs = Q at *
  generalize hR : x.natAbs % y.natAbs = R at *
  have QR := hide (And.intro hQ hR)
  clear hQ hR
  have hr := X.r3
  go_enter Tryz.func69, Tryz.ntmps69
  go_wp2_with fail
  refine (D.out _).mono ?_
  rintro e w1 ⟨⟨qh, ql, rh, rl, rfl, hq, hrr⟩, hb⟩
  have Z1 : w.heap.size + 1 + 1 < w1.heap.size := (X.to hb).r1.2.2
  replace X := ((X.to hb).alloc (Uc qh ql) 109).alloc (Uc rh rl) 109
  simp only [World.size_alloc] at X
  have HQ := hide hq
  have HR := hide hrr
  clear hb hr hq hrr
  have hr := X.r5
  by_cases z : R = 0
  · obtain ⟨z1, z2⟩ := (wd_zero HR.out).2 z
    have zq : ((rh : Int) == 0) = true := by simp; omega
    have zq' : ((rl : Int) == 0) = true := by simp; omega
    clear z1 z2
    have NZ := hide (FC.out.1 z)
    clear z
    go_wp2_with fail
    refine (r3made_any qh ql _ _).mono ?_
    rintro e w3 ⟨⟨s', rfl, hs⟩, hb⟩
    replace X := X.to hb
    have HG := hide hs
    clear hb hr hs
    have hr := X.r5
    go_wp2
    exact bodyPost_ret (v := Nd qh ql s') (by simp [results, Tryz.results69, hr, go_sem]) rfl (ZPost.ns NZ.out HQ.out (HG.out.trans (by first | rfl | simp)) (by have HX := X.1; have hz := HX.size; go_grown))
  · have z' : (rh ≠ 0) ∨ (rh = 0 ∧ rl ≠ 0) := by
      have : ¬ (rh = 0 ∧ rl = 0) := fun k => z ((wd_zero HR.out).1 k)
      clear hr
      omega
    have NZ := hide (FC.out.2 z)
    have SM := hide (fdv_small QR.out.1 QR.out.2 ZB.out z)
    have P := hide (fun W => r3plus_any qh ql 0 1 W HQ.out.2.1 (by omega))
    clear z
    rcases z' with z | ⟨z0, z⟩
    · have zq : ((rh : Int) == 0) = false := by simp; omega
      clear z
      go_wp2_with fail
      refine (P.out _).mono ?_
      rintro e w2 ⟨⟨ph, pl, rfl, hp⟩, hb⟩
      have HP := hide hp
      have Y := (X.to hb).swap
      have X := (Y.setU (h' := ph) (l' := pl) (by omega) (by simp <;> omega)).swap
      clear hb hr hp zq
      have hr := Y.r5
      go_wp2_with fail
      refine (r3made_any ph pl _ _).mono ?_
      rintro e w3 ⟨⟨s', rfl, hs⟩, hb⟩
      replace X := X.to hb
      have HG := hide hs
      clear hb hr hs
      have hr := X.r5
      go_wp2
      exact bodyPost_ret (v := Nd ph pl s') (by simp [results, Tryz.results69, hr, go_sem]) rfl (ZPost.ns NZ.out (wd_one HP.out HQ.out SM.out) (HG.out.trans (by first | rfl | simp)) (by have HX := X.1; have hz := HX.size; go_grown))
    · have zr : ((rh : Int) == 0) = true := by simp; omega
      clear z0
      have zq : ((rl : Int) == 0) = false := by simp; omega
      clear z
      go_wp2_with fail
      refine (P.out _).mono ?_
      rintro e w2 ⟨⟨ph, pl, rfl, hp⟩, hb⟩
      have HP := hide hp
      have Y := (X.to hb).swap
      have X := (Y.setU (h' := ph) (l' := pl) (by omega) (by simp <;> omega)).swap
      clear hb hr hp zq zr
      have hr := Y.r5
      go_wp2_with fail
      refine (r3made_any ph pl _ _).mono ?_
      rintro e w3 ⟨⟨s', rfl, hs⟩, hb⟩
      replace X := X.to hb
      have HG := hide hs
      clear hb hr hs
      have hr := X.r5
      go_wp2
      exact bodyPost_ret (v := Nd ph pl s') (by simp [results, Tryz.results69, hr, go_sem]) rfl (ZPost.ns NZ.out (wd_one HP.out HQ.out SM.out) (HG.out.trans (by first | rfl | simp)) (by have HX := X.1; have hz := HX.size; go_grown))
end Go.Proofs.YtbmocghfpcfmhaaGreatDoor
