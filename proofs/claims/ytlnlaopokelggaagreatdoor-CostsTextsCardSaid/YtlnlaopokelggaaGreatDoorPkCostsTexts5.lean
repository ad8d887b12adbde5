/- Parts of one proof, joined: math/bits.Div64, every high word below the divisor: quotient and rest; memory is left as it is. The program's wide integers from 0 on: Product, Floor, Ceil: what each returns where the quotient fits; nothing that was there is turned. Signed wide integers: their parts and words, said of integers. The program's wide integers: size, signed, times, whole, quotient, Scale: what each returns, where the high word is 0 or the divisor is 1; nothing that was there is turned. -/
import Derived.Test.YtlnlaopokelggaaGreatDoorPkCostsTexts4
import Derived.Test.YtlnlaopokelggaaGreatDoorPkCostsTexts3
import Derived.Test.YtlnlaopokelggaaGreatDoorShelf
import Derived.Deep.RegionHeld3
namespace Go.Proofs.YtlnlaopokelggaaGreatDoor
open Go.RowKit

theorem u64_nat {x : Nat} (h : x < 18446744073709551616) : IntKind.u64.wrap (x : Int) = (x : Int) := by rw [IntKind.wrap_u64]; omega
theorem u64_mod (x : Nat) : IntKind.u64.wrap (x : Int) = ((x % 18446744073709551616 : Nat) : Int) := by rw [IntKind.wrap_u64]; omega
theorem u64_and32 {x : Nat} (h : x < 18446744073709551616) : bits .and .u64 (x : Int) 4294967295 = ((x % 4294967296 : Nat) : Int) := by
  have e : x &&& 4294967295 = x % 4294967296 := Nat.and_two_pow_sub_one_eq_mod x 32
  have := bits_and_u64_nat x 4294967295 h (by omega)
  rw [e] at this
  exact this
theorem u64_or_nat {x y z : Nat} (h : x ||| y = z) (hx : x < 18446744073709551616) (hy : y < 18446744073709551616) : bits .or .u64 (x : Int) (y : Int) = (z : Int) := by
  have hz : x ||| y < 2 ^ 64 := Nat.or_lt_two_pow (by omega) (by omega)
  rw [← h]
  show IntKind.u64.wrap ((BitVec.ofInt 64 (x : Int) ||| BitVec.ofInt 64 (y : Int)).toNat : Int) = _
  rw [BitVec.toNat_or, BitVec.ofInt_natCast, BitVec.ofInt_natCast, BitVec.toNat_ofNat, BitVec.toNat_ofNat, Nat.mod_eq_of_lt (by omega), Nat.mod_eq_of_lt (by omega)]
  exact u64_nat (by omega)
theorem cast_pow (x p : Nat) : (x : Int) * 2 ^ p = ((x * 2 ^ p : Nat) : Int) := by rw [Int.natCast_mul, Int.natCast_pow]; rfl
theorem cast_div_pow (x p : Nat) : (x : Int) / 2 ^ p = ((x / 2 ^ p : Nat) : Int) := by rw [Int.natCast_ediv, Int.natCast_pow]; rfl
theorem u64_sub {x y z : Nat} (h : ((x : Int) - (y : Int)) % 18446744073709551616 = (z : Int)) (x' y' : Nat) (hx : x' = x % 18446744073709551616) (hy : y' = y % 18446744073709551616) : IntKind.u64.wrap ((x' : Int) - (y' : Int)) = (z : Int) := by
  rw [IntKind.wrap_u64, hx, hy]; omega
theorem e_div {x a q : Nat} (h : q = x / a) : (x : Int) / (a : Int) = (q : Int) := by rw [h, Int.natCast_ediv]
theorem e_mul {x y z : Nat} (h : z = x * y % 18446744073709551616) : IntKind.u64.wrap ((x : Int) * (y : Int)) = (z : Int) := by rw [← Int.natCast_mul, u64_mod, h]
theorem e_mul32 {x z : Nat} (h : z = x * 4294967296 % 18446744073709551616) : IntKind.u64.wrap ((x : Int) * 4294967296) = (z : Int) := by
  rw [h]; exact e_mul (y := 4294967296) rfl
theorem e_add {x y z : Nat} (h : z = (x + y) % 18446744073709551616) : IntKind.u64.wrap ((x : Int) + (y : Int)) = (z : Int) := by rw [← Int.natCast_add, u64_mod, h]
theorem e_sub {x y z : Nat} (hy : y ≤ x) (h : z = x - y) (hz : x < 18446744073709551616) : IntKind.u64.wrap ((x : Int) - (y : Int)) = (z : Int) := by
  rw [IntKind.wrap_u64, h]; omega
theorem e_join (u V : Nat) : (u * 4294967296 + V / 4294967296) * 4294967296 + V % 4294967296 = u * 18446744073709551616 + V := by omega
theorem e_rest {x y z k k3 : Nat} (h : ((x : Int) - (y : Int)) % 18446744073709551616 = (z : Int)) (h1 : k = x % 18446744073709551616) (h2 : k3 = y % 18446744073709551616) : IntKind.u64.wrap ((k : Int) - (k3 : Int)) = (z : Int) := u64_sub h k k3 h1 h2
theorem e_two {x n k k2 : Nat} (h1 : k = x * 4294967296 % 18446744073709551616) (h2 : k2 = (x * 4294967296 + n) % 18446744073709551616) : k2 = (k + n) % 18446744073709551616 := by rw [h1, h2]; omega
theorem lt64 {q : Nat} (h : q ≤ 4294967297) : q < 18446744073709551616 := by omega
theorem q_lt {Q Q2 : Nat} (h : Q < 4294967296) (h' : Q2 < 4294967296) : Q * 4294967296 + Q2 < 18446744073709551616 ∧ Q * 4294967296 < 18446744073709551616 := by omega
theorem mod_self' {x : Nat} (h : x < 18446744073709551616) : x = x % 18446744073709551616 := (Nat.mod_eq_of_lt h).symm
theorem mul_le_of {q a u r : Nat} (h : q * a + r = u) (hu : u < 18446744073709551616) : q * a < 18446744073709551616 ∧ q * a ≤ u ∧ r = u - q * a := by omega
theorem half_bd {Y : Nat} (h1 : 9223372036854775808 ≤ Y) (h2 : Y < 18446744073709551616) : 2147483648 ≤ Y / 4294967296 ∧ Y / 4294967296 < 4294967296 ∧ Y / 4294967296 * 4294967296 + Y % 4294967296 = Y := by omega
theorem half_lt {V : Nat} (h : V < 18446744073709551616) : V / 4294967296 < 4294967296 := by omega
theorem div64_inst (h l y s s' Y H L u V a b m n v Q Q2 w4 : Nat) (g5 : decide (y ≤ h) = false) (g3 : ((y : Int) == 0) = false) (g4 : ((h : Int) == 0) = false) (w : World)
    (LZ : Calls Tryz.prog 112 #[.int .u64 (y : Int)] w fun e w' => e = .returned (.int .i64 (s : Int)) ∧ w' = w)
    (s1 : s < 64) (E1 : IntKind.u64.wrap (s : Int) = (s : Int)) (E2 : min s 64 = s) (E3 : IntKind.u64.wrap ((y : Int) * 2 ^ s) = (Y : Int)) (ha : a = Y / 4294967296) (hb : b = Y % 4294967296)
    (E6 : IntKind.u64.wrap ((h : Int) * 2 ^ s) = (H : Int)) (E7 : IntKind.u64.wrap (64 - (s : Int)) = (s' : Int)) (E8 : min s' 64 = s') (E9 : (l : Int) / 2 ^ s' = (L : Int)) (E10 : bits .or .u64 (H : Int) (L : Int) = (u : Int))
    (E11 : IntKind.u64.wrap ((l : Int) * 2 ^ s) = (V : Int)) (hm : m = V / 4294967296) (hn : n = V % 4294967296)
    (a1 : 2147483648 ≤ a) (a2 : a < 4294967296) (b2 : b < 4294967296) (m2 : m < 4294967296) (n2 : n < 4294967296) (eY : a * 4294967296 + b = Y) (Y2 : Y < 18446744073709551616) (V2 : V < 18446744073709551616)
    (uY : u < Y) (hQ : Q = (u * 4294967296 + m) / Y) (hv : v = (u * 4294967296 + m) % Y) (hQ2 : Q2 = (v * 4294967296 + n) / Y) (hw : w4 = (v * 4294967296 + n) % Y) :
    Calls Tryz.prog 82 #[.int .u64 h, .int .u64 l, .int .u64 y] w fun e w' => e = .returned (.tuple #[.int .u64 ((Q * 4294967296 + Q2 : Nat) : Int), .int .u64 ((w4 / 2 ^ s : Nat) : Int)]) ∧ w = w' := by
  have Y0 : 0 < Y := by omega
  have vY : v < Y := by rw [hv]; exact Nat.mod_lt _ Y0
  have S1 := D64.start a1 b2 (by rw [eY]; exact uY)
  have S2 := D64.start (u := v) a1 b2 (by rw [eY]; exact vY)
  have T1 := D64.start_ge (u := u) (a := a) (b := b) (n := m) (by omega) m2
  have T2 := D64.start_ge (u := v) (a := a) (b := b) (n := n) (by omega) n2
  have Q1 : Q < 4294967296 := by rw [hQ]; exact D64.quo_small uY m2
  have Q22 : Q2 < 4294967296 := by rw [hQ2]; exact D64.quo_small vY n2
  have RW1 := D64.rest_word Y0 Y2 hQ
  have RW2 := D64.rest_word Y0 Y2 hQ2
  rw [← hv] at RW1
  rw [← hw] at RW2
  have u2 : u < 18446744073709551616 := by omega
  have v3 : v < 18446744073709551616 := by omega
  have M1 := mul_le_of S1.1 u2
  have M2 := mul_le_of S2.1 v3
  have QL := q_lt Q1 Q22
  obtain ⟨q0, hq0⟩ : ∃ q0, q0 = u / a := ⟨_, rfl⟩
  obtain ⟨r0, hr0⟩ : ∃ r0, r0 = u % a := ⟨_, rfl⟩
  obtain ⟨q2, hq2⟩ : ∃ q2, q2 = v / a := ⟨_, rfl⟩
  obtain ⟨r2, hr2⟩ : ∃ r2, r2 = v % a := ⟨_, rfl⟩
  rw [← hq0, ← hr0] at S1
  rw [← hq2, ← hr2] at S2
  rw [← hq0] at T1
  rw [← hq2] at T2
  rw [← hq0, ← hr0] at M1
  rw [← hq2, ← hr2] at M2
  have LTQ0 := lt64 S1.2.1
  have LTQ2 := lt64 S2.2.1
  obtain ⟨k1, hk1⟩ : ∃ k1, k1 = u * 4294967296 % 18446744073709551616 := ⟨_, rfl⟩
  obtain ⟨k2, hk2⟩ : ∃ k2, k2 = (u * 4294967296 + m) % 18446744073709551616 := ⟨_, rfl⟩
  obtain ⟨k3, hk3⟩ : ∃ k3, k3 = Q * Y % 18446744073709551616 := ⟨_, rfl⟩
  obtain ⟨j1, hj1⟩ : ∃ j1, j1 = v * 4294967296 % 18446744073709551616 := ⟨_, rfl⟩
  obtain ⟨j2, hj2⟩ : ∃ j2, j2 = (v * 4294967296 + n) % 18446744073709551616 := ⟨_, rfl⟩
  obtain ⟨j3, hj3⟩ : ∃ j3, j3 = Q2 * Y % 18446744073709551616 := ⟨_, rfl⟩
  exact div64_core h l y s s' Y a b H L u V m n q0 (q0 * a) r0 k1 k2 k3 v q2 (q2 * a) r2 (Q * 4294967296) (Q * 4294967296 + Q2) j1 j2 j3 w4 (w4 / 2 ^ s) Q Q2 g5 g3 g4 w LZ s1 E1 E2 E3
    (e_div (a := 4294967296) ha) (by rw [hb]; exact u64_and32 Y2) E6 E7 E8 E9 E10 E11 (e_div (a := 4294967296) hm) (by rw [hn]; exact u64_and32 V2) a1 a2 b2 m2 n2
    (e_div hq0) (u64_nat LTQ0) (e_mul (mod_self' M1.1)) (e_sub M1.2.1 M1.2.2 u2) ⟨S1.1, T1, S1.2.1, Nat.lt_trans S1.2.2 a2⟩ (hide (by rw [eY]; exact uY)) (hide (by rw [eY]; exact hQ))
    (e_mul32 hk1) (e_add (e_two hk1 hk2)) (e_mul hk3) (e_rest RW1 hk2 hk3) (e_div hq2) (u64_nat LTQ2) (e_mul (mod_self' M2.1)) (e_sub M2.2.1 M2.2.2 v3) ⟨S2.1, T2, S2.2.1, Nat.lt_trans S2.2.2 a2⟩ (hide (by rw [eY]; exact vY)) (hide (by rw [eY]; exact hQ2))
    (e_mul32 (mod_self' QL.2)) (e_add (mod_self' QL.1)) (e_mul32 hj1) (e_add (e_two hj1 hj2)) (e_mul hj3) (e_rest RW2 hj2 hj3) (cast_div_pow _ _)
theorem div64_pos (h l y : Nat) (h0 : 0 < h) (hh : h < y) (hl : l < 18446744073709551616) (hy : y < 18446744073709551616) (w : World) :
    Calls Tryz.prog 82 #[.int .u64 h, .int .u64 l, .int .u64 y] w fun e w' => e = .returned (.tuple #[.int .u64 (((h * 18446744073709551616 + l) / y : Nat) : Int), .int .u64 (((h * 18446744073709551616 + l) % y : Nat) : Int)]) ∧ w = w' := by
  obtain ⟨c1, b1, b2⟩ := bitLen_bd 64 y hy (Nat.le_refl _) (by omega)
  have c2 : Lib.bitLen y ≤ 64 := Lib.bitLen_le y 64 (Nat.le_refl _) hy
  have LZ := Tryz.bits_LeadingZeros64 (y : Int) w (by omega) (by omega)
  simp only [Int.toNat_natCast] at LZ
  generalize Lib.bitLen y = c at *
  obtain ⟨g1, g2, g3, g4, g5, g6⟩ := D64.shift_parts c1 c2 b1 b2 hh hl
  have LZ' : Calls Tryz.prog 112 #[.int .u64 (y : Int)] w fun e w' => e = .returned (.int .i64 ((64 - c : Nat) : Int)) ∧ w' = w := by
    have e : (64 : Int) - (c : Int) = ((64 - c : Nat) : Int) := by omega
    rw [e] at LZ
    exact LZ
  have hP : 0 < 2 ^ (64 - c) := Nat.two_pow_pos _
  have hL : l / 2 ^ c < 18446744073709551616 := Nat.lt_of_le_of_lt (Nat.div_le_self _ _) hl
  have shv := @D64.shift_div (h * 18446744073709551616 + l) y (2 ^ (64 - c)) hP
  have E3 : IntKind.u64.wrap ((y : Int) * 2 ^ (64 - c)) = ((y * 2 ^ (64 - c) : Nat) : Int) := by rw [cast_pow]; exact u64_nat g2
  have E6 : IntKind.u64.wrap ((h : Int) * 2 ^ (64 - c)) = ((h * 2 ^ (64 - c) : Nat) : Int) := by rw [cast_pow]; exact u64_nat g3
  have E11 : IntKind.u64.wrap ((l : Int) * 2 ^ (64 - c)) = ((l * 2 ^ (64 - c) % 18446744073709551616 : Nat) : Int) := by rw [cast_pow]; exact u64_mod _
  have E10 := u64_or_nat g4 g3 hL
  have V2 : l * 2 ^ (64 - c) % 18446744073709551616 < 18446744073709551616 := Nat.mod_lt _ (by decide)
  rw [← g5] at shv
  have g6' := g6
  obtain ⟨Y, hY⟩ : ∃ Y, Y = y * 2 ^ (64 - c) := ⟨_, rfl⟩
  obtain ⟨u, hu⟩ : ∃ u, u = h * 2 ^ (64 - c) + l / 2 ^ c := ⟨_, rfl⟩
  obtain ⟨V, hV⟩ : ∃ V, V = l * 2 ^ (64 - c) % 18446744073709551616 := ⟨_, rfl⟩
  rw [← hY] at E3 g1 g2 g6
  rw [← hu] at g6 E10
  rw [← hV] at E11 V2
  rw [← hY, ← hu, ← hV] at shv
  obtain ⟨v, hv⟩ : ∃ v, v = (u * 4294967296 + V / 4294967296) % Y := ⟨_, rfl⟩
  have Y0 : 0 < Y := Nat.lt_of_lt_of_le (by decide) g1
  have TS := D64.two_steps (N := u * 4294967296 + V / 4294967296) (n := V % 4294967296) Y0
  rw [e_join, ← hv] at TS
  rw [← shv.1, ← shv.2, TS.1, TS.2]
  obtain ⟨A1, A2, A3⟩ := half_bd g1 g2
  have A4 := half_lt V2
  exact div64_inst h l y (64 - c) c Y _ _ u V _ _ _ _ v _ _ _ (by simp; omega) (by simp; omega) (by simp; omega) w LZ' (by omega) (u64_nat (by omega)) (by omega) E3 rfl rfl E6 (by rw [IntKind.wrap_u64]; omega) (by omega) (cast_div_pow _ _) E10 E11 rfl rfl A1 A2 (Nat.mod_lt _ (by decide)) A4 (Nat.mod_lt _ (by decide)) A3 g2 V2 g6 rfl hv rfl rfl
/-- Div64, wherever the high word is below the divisor -/
theorem div64_any (h l y : Nat) (hh : h < y) (hl : l < 18446744073709551616) (hy : y < 18446744073709551616) (w : World) :
    Calls Tryz.prog 82 #[.int .u64 h, .int .u64 l, .int .u64 y] w fun e w' => e = .returned (.tuple #[.int .u64 (((h * 18446744073709551616 + l) / y : Nat) : Int), .int .u64 (((h * 18446744073709551616 + l) % y : Nat) : Int)]) ∧ ∃ n, w' = w.drewN n := by
  rcases Nat.eq_zero_or_pos h with h0 | h0
  · subst h0
    simp only [Nat.zero_mul, Nat.zero_add]
    exact div64_low l y hl (by omega) hy w
  · exact (div64_pos h l y h0 hh hl hy w).mono fun _ _ ⟨e, hw⟩ => ⟨e, 0, by rw [← hw]; rfl⟩
end Go.Proofs.YtlnlaopokelggaaGreatDoor

namespace Go.Proofs.YtlnlaopokelggaaGreatDoor
open Go.RowKit

abbrev HW (v : Nat) : Int := ((v / 18446744073709551616 : Nat) : Int)
abbrev LW (v : Nat) : Int := ((v % 18446744073709551616 : Nat) : Int)
abbrev Nv (v : Nat) : Value := .agg #[.int .u64 ((v / 18446744073709551616 : Nat) : Int), .int .u64 ((v % 18446744073709551616 : Nat) : Int), .bool false]
abbrev Wv (v : Nat) : Value := .agg #[.int .i64 ((v / 1152921504606846976 : Nat) : Int), .int .i64 ((v % 1152921504606846976 : Nat) : Int)]
theorem Own.drewN' {w W : World} {L : List (Nat × TypeId × Array Value)} (h : Own w W L) (n : Nat) : Own w (W.drewN n) L := ⟨⟨h.1.os, h.1.tape, h.1.output, h.1.size, h.1.block⟩, fun x hx => (h.2 x hx).drewN n⟩
theorem below_dnW {B : Nat} {a w : World} (h : Below B a w) (n : Nat) : Below B a (w.drewN n) := ⟨h.os, h.tape, h.output, h.size, h.block⟩
set_option maxHeartbeats 400000 in
theorem wdsize_any (n : Nat) (w : World) (h : n ≤ 9223372036854775807) :
    Calls Tryz.prog 57 #[.int .i64 (n : Int)] w fun e w' => e = .returned (.int .u64 (n : Int)) ∧ w = w' := by
  go_enter Tryz.func57, Tryz.ntmps57
  go_wp2
  go_ret
  exact ⟨ret_int rfl, rfl⟩
set_option maxHeartbeats 400000 in
theorem wdsigned_any (h l : Int) (w : World) :
    Calls Tryz.prog 56 #[.int .u64 h, .int .u64 l, .bool false] w fun e w' => e = .returned (.agg #[.int .u64 h, .int .u64 l, .bool false]) ∧ Below w.heap.size w w' := by
  go_enter Tryz.func56, Tryz.ntmps56
  go_wp2
  refine bodyPost_ret (v := .agg #[.int .u64 h, .int .u64 l, .bool false]) (by simp [results, Tryz.results56, go_sem]) rfl ⟨rfl, by go_grown⟩
set_option maxHeartbeats 400000 in
theorem wdtimes_any (a b : Nat) (w : World) (h1 : a ≤ 9223372036854775807) (h2 : b ≤ 9223372036854775807) :
    Calls Tryz.prog 53 #[.int .i64 (a : Int), .int .i64 (b : Int)] w fun e w' => e = .returned (Nv (a * b)) ∧ Below w.heap.size w w' := by
  have X := (Own.start w).alloc #[.int .u64 0, .int .u64 0, .bool false] 105
  have g1 : ¬ (a : Int) < 0 := by omega
  have g2 : ¬ (b : Int) < 0 := by omega
  go_enter Tryz.func53, Tryz.ntmps53
  go_wp2_with fail
  refine (wdsize_any _ _ h1).mono ?_
  rintro e w' ⟨rfl, rfl⟩
  go_wp2_with fail
  refine (wdsize_any _ _ h2).mono ?_
  rintro e w' ⟨rfl, rfl⟩
  go_wp2_with fail
  refine (Tryz.bits_Mul64 _ _ (by omega) (by omega) _).mono ?_
  rintro e w' ⟨rfl, rfl⟩
  go_wp2_with fail
  refine (wdsigned_any _ _ _).mono ?_
  rintro e w1 ⟨rfl, hb1⟩
  replace X := X.to hb1
  clear hb1
  have hr := X.r1
  go_wp2
  refine bodyPost_ret (v := Nv (a * b)) (by simp [results, Tryz.results53, hr, go_sem]) rfl ⟨rfl, ?_⟩
  have HX := X.1
  have hz := HX.size
  go_grown
set_option maxHeartbeats 1000000 in
theorem wdplaced_any (v : Nat) (w : World) (h : v < 1329227995784915872903807060280344576) :
    Calls Tryz.prog 55 #[Nv v] w fun e w' => e = .returned (.tuple #[Wv v, .int .i64 0]) ∧ Below w.heap.size w w' := by
  obtain ⟨hi, hhi⟩ : ∃ hi, hi = v / 18446744073709551616 := ⟨_, rfl⟩
  obtain ⟨lo, hlo⟩ : ∃ lo, lo = v % 18446744073709551616 := ⟨_, rfl⟩
  obtain ⟨a, ha⟩ : ∃ a, a = v / 1152921504606846976 := ⟨_, rfl⟩
  obtain ⟨b, hb⟩ : ∃ b, b = v % 1152921504606846976 := ⟨_, rfl⟩
  have d1 : hi < 72057594037927936 := by omega
  have E1 : IntKind.u64.wrap ((hi : Int) * 16) = ((hi * 16 : Nat) : Int) := by rw [IntKind.wrap_u64]; omega
  have E2 : (lo : Int) / 1152921504606846976 = ((lo / 1152921504606846976 : Nat) : Int) := by omega
  have E3 : bits .or .u64 ((hi * 16 : Nat) : Int) ((lo / 1152921504606846976 : Nat) : Int) = (a : Int) := by
    have e : hi * 16 ||| lo / 1152921504606846976 = a := by
      rw [show hi * 16 = 2 ^ 4 * hi by omega, Nat.two_pow_add_eq_or_of_lt (by omega : lo / 1152921504606846976 < 2 ^ 4) hi |>.symm]
      omega
    exact u64_or_nat e (by omega) (by omega)
  have E4 : IntKind.i64.wrap (a : Int) = (a : Int) := IntWalk.i64_in _ (by omega)
  have E5 : bits .and .u64 (lo : Int) 1152921504606846975 = (b : Int) := by
    have e : lo &&& 1152921504606846975 = lo % 1152921504606846976 := Nat.and_two_pow_sub_one_eq_mod lo 60
    have := bits_and_u64_nat lo 1152921504606846975 (by omega) (by omega)
    rw [e] at this
    have e2 : lo % 1152921504606846976 = b := by omega
    rw [e2] at this
    exact this
  have E6 : IntKind.i64.wrap (b : Int) = (b : Int) := IntWalk.i64_in _ (by omega)
  have g1 : ¬ ((hi : Int) > 72057594037927936) := by omega
  have g2 : ((hi : Int) == 72057594037927936) = false := beq_eq_false_iff_ne.2 (by omega)
  have X := ((Own.start w).alloc #[.int .u64 (hi : Int), .int .u64 (lo : Int), .bool false] 105).alloc #[.int .i64 0, .int .i64 0] 80
  unfold Nv Wv
  rw [← hhi, ← hlo, ← ha, ← hb]
  generalize ((hi * 16 : Nat) : Int) = z1 at *
  generalize ((lo / 1152921504606846976 : Nat) : Int) = z2 at *
  clear hhi hlo ha hb
  go_enter Tryz.func55, Tryz.ntmps55
  go_wp2
  go_quiet (fail)
  go_wp2
  have Y := (X.drewN' nq).1
  refine bodyPost_ret (v := .tuple #[.agg #[.int .i64 (a : Int), .int .i64 (b : Int)], .int .i64 0]) (by simp [results, Tryz.results55, go_sem]) rfl ⟨rfl, ?_⟩
  exact below_set (below_set Y (by omega) _) (by omega) _
set_option maxRecDepth 100000 in
set_option maxHeartbeats 1000000 in
theorem wdvalid_any (v : Nat) (w : World) (h : v < 1329227995784915872903807060280344576) :
    Calls Tryz.prog 58 #[Wv v] w fun e w' => e = .returned (.bool true) ∧ Below w.heap.size w w' := by
  have a1 : v / 1152921504606846976 < 1152921504606846976 := by omega
  have a2 : v % 1152921504606846976 < 1152921504606846976 := by omega
  unfold Wv
  generalize v / 1152921504606846976 = a at *
  generalize v % 1152921504606846976 = b at *
  have b1 : (-1152921504606846976 : Int) ≤ (a : Int) := by omega
  have b2 : (a : Int) < 1152921504606846976 := by omega
  have b3 : (0 : Int) ≤ (b : Int) := by omega
  have b4 : (b : Int) < 1152921504606846976 := by omega
  clear h a1 a2
  go_enter Tryz.func58, Tryz.ntmps58
  go_wp2
  go_ret
  exact ⟨ret_bool rfl, by go_grown⟩
set_option maxHeartbeats 1000000 in
theorem wdvalue_any (v : Nat) (w : World) (h : v < 1329227995784915872903807060280344576) :
    Calls Tryz.prog 60 #[Wv v] w fun e w' => e = .returned (Nv v) ∧ Below w.heap.size w w' := by
  obtain ⟨hi, hhi⟩ : ∃ hi, hi = v / 18446744073709551616 := ⟨_, rfl⟩
  obtain ⟨lo, hlo⟩ : ∃ lo, lo = v % 18446744073709551616 := ⟨_, rfl⟩
  obtain ⟨a, ha⟩ : ∃ a, a = v / 1152921504606846976 := ⟨_, rfl⟩
  obtain ⟨b, hb⟩ : ∃ b, b = v % 1152921504606846976 := ⟨_, rfl⟩
  obtain ⟨c, hc⟩ : ∃ c, c = a * 1152921504606846976 % 18446744073709551616 := ⟨_, rfl⟩
  have a1 : a < 1152921504606846976 := by omega
  have E1 : (a : Int) / 16 = (hi : Int) := by omega
  have E2 : IntKind.u64.wrap ((a : Int) * 1152921504606846976) = (c : Int) := e_mul (y := 1152921504606846976) hc
  have E3 : IntKind.u64.wrap (b : Int) = (b : Int) := u64_nat (by omega)
  have E4 : bits .or .u64 (c : Int) (b : Int) = (lo : Int) := by
    have e : c ||| b = lo := by
      have : c = 2 ^ 60 * (a % 16) := by omega
      rw [this, Nat.two_pow_add_eq_or_of_lt (by omega : b < 2 ^ 60) (a % 16) |>.symm]
      omega
    exact u64_or_nat e (by omega) (by omega)
  have g1 : (0 : Int) ≤ (a : Int) := by omega
  have X := ((Own.start w).alloc #[.int .i64 (a : Int), .int .i64 (b : Int)] 80).alloc #[.int .u64 0, .int .u64 0, .bool false] 105
  unfold Nv Wv
  rw [← hhi, ← hlo, ← ha, ← hb]
  clear hhi hlo ha hb hc h
  go_enter Tryz.func60, Tryz.ntmps60
  go_wp2_with fail
  refine (wdsize_any _ _ (by omega)).mono ?_
  rintro e w' ⟨rfl, rfl⟩
  go_wp2
  refine bodyPost_ret (v := .agg #[.int .u64 (hi : Int), .int .u64 (lo : Int), .bool false]) (by simp [results, Tryz.results60, go_sem]) rfl ⟨rfl, ?_⟩
  go_grown
set_option maxHeartbeats 400000 in
theorem wdwhole_any (n : Nat) (w : World) (h : n ≤ 9223372036854775807) :
    Calls Tryz.prog 61 #[.int .u64 (n : Int), .bool false] w fun e w' => e = .returned (.tuple #[.int .i64 (n : Int), .int .i64 0]) ∧ w = w' := by
  go_enter Tryz.func61, Tryz.ntmps61
  go_wp2
  go_ret2
  exact ⟨rfl, rfl⟩
/-- a quotient, rounded down or up -/
def qud (v c : Nat) (u : Bool) : Nat := v / c + if v % c ≠ 0 ∧ u = true then 1 else 0
theorem qud_down (v c : Nat) : ((qud v c false : Nat) : Int) = (v : Int) / (c : Int) := by simp [qud]
theorem qud_up (v c : Nat) (hc : 0 < c) : ((qud v c true : Nat) : Int) = cdiv (v : Int) (c : Int) := by
  have h : ((qud v c true : Nat) : Int) = if v % c ≠ 0 then (v : Int) / (c : Int) + 1 else (v : Int) / (c : Int) := by unfold qud; split <;> simp_all
  have m := Nat.div_add_mod v c
  have ml := Nat.mod_lt v hc
  generalize hq : v / c = q at *
  generalize v % c = r at *
  have e : (v : Int) = (c : Int) * (q : Int) + (r : Int) := by rw [← m]; simp
  have ed : (v : Int) / (c : Int) = (q : Int) := by rw [← hq]; simp
  rw [h, ed]
  apply Int.le_antisymm
  · split
    · rcases Int.lt_or_le (q : Int) (cdiv v c) with k | k
      · omega
      · have := (cdiv_iff (n := (v : Int)) (d := (c : Int)) (by omega)).1 k
        have e2 : (q : Int) * (c : Int) = (c : Int) * (q : Int) := Int.mul_comm ..
        omega
    · exact ed ▸ (fc_le (n := (v : Int)) (d := (c : Int)) (by omega)).1
  · rw [cdiv_iff (by omega)]
    split
    · have e2 : ((q : Int) + 1) * (c : Int) = (c : Int) * (q : Int) + (c : Int) := by grind
      omega
    · have e2 : (q : Int) * (c : Int) = (c : Int) * (q : Int) := Int.mul_comm ..
      omega
set_option maxHeartbeats 4000000 in
theorem wdquotient_any (v c : Nat) (u : Bool) (w : World) (hc : 0 < c) (hc' : c ≤ 9223372036854775807) (hq : v / c < 4611686018427387904) :
    Calls Tryz.prog 54 #[Nv v, .int .i64 (c : Int), .bool u] w fun e w' => e = .returned (.tuple #[.int .i64 (qud v c u : Nat), .int .i64 0]) ∧ Below w.heap.size w w' := by
  obtain ⟨hi, hhi⟩ : ∃ hi, hi = v / 18446744073709551616 := ⟨_, rfl⟩
  obtain ⟨lo, hlo⟩ : ∃ lo, lo = v % 18446744073709551616 := ⟨_, rfl⟩
  obtain ⟨q, hqq⟩ : ∃ q, q = v / c := ⟨_, rfl⟩
  obtain ⟨r, hr⟩ : ∃ r, r = v % c := ⟨_, rfl⟩
  have d0 : hi < c := by
    have m := Nat.div_add_mod v c
    have ml := Nat.mod_lt v hc
    have : c * (v / c) ≤ c * 4611686018427387903 := Nat.mul_le_mul_left c (by omega)
    omega
  have ev : hi * 18446744073709551616 + lo = v := by omega
  have d1 : ¬ ((hi : Int) ≥ (c : Int)) := by omega
  have X := (Own.start w).alloc #[.int .u64 (hi : Int), .int .u64 (lo : Int), .bool false] 105
  have D := hide (fun W => div64_any hi lo c d0 (by omega) (by omega) W)
  rw [ev, ← hqq, ← hr] at D
  have HQ := hide (show (qud v c u : Nat) = q + (if r ≠ 0 ∧ u = true then 1 else 0) by unfold qud; rw [hqq, hr])
  unfold Nv
  rw [← hhi, ← hlo]
  have q1 : q < 4611686018427387904 := by omega
  have g0 : ¬ (c : Int) < 0 := by omega
  have g3 : IntKind.u64.wrap ((q : Int) + 1) = ((q + 1 : Nat) : Int) := by rw [IntKind.wrap_u64]; omega
  have g4 : (((q + 1 : Nat) : Int) == 0) = false := beq_eq_false_iff_ne.2 (by omega)
  obtain ⟨q2, hq2⟩ : ∃ q2, q2 = q + 1 := ⟨_, rfl⟩
  rw [← hq2] at g3 g4
  have HQ2 := hide hq2
  have q3 : q2 ≤ 4611686018427387904 := by omega
  clear hhi hlo hqq hr ev hq hq2 d0
  by_cases hr0 : r = 0
  · have HR := hide hr0
    have g1 : ¬ ((r : Int) > 0) := by omega
    clear hr0
    go_enter Tryz.func54, Tryz.ntmps54
    go_wp2_with fail
    refine (wdsize_any _ _ hc').mono ?_
    rintro e w' ⟨rfl, rfl⟩
    have hr := X.r1
    go_wp2_with fail
    refine (D.out _).mono ?_
    rintro e w1 ⟨rfl, nn, rfl⟩
    go_wp2_with fail
    refine (wdwhole_any _ _ (by omega)).mono ?_
    rintro e w' ⟨rfl, rfl⟩
    go_wp2
    go_ret2
    exact ⟨by rw [HQ.out, HR.out]; simp, below_dnW X.1 nn⟩
  · have HR := hide hr0
    have g1 : (r : Int) > 0 := by omega
    clear hr0
    cases u
    all_goals
      go_enter Tryz.func54, Tryz.ntmps54
      go_wp2_with fail
      refine (wdsize_any _ _ hc').mono ?_
      rintro e w' ⟨rfl, rfl⟩
      have hr := X.r1
      go_wp2_with fail
      refine (D.out _).mono ?_
      rintro e w1 ⟨rfl, nn, rfl⟩
      go_wp2_with fail
      refine (wdwhole_any _ _ (by omega)).mono ?_
      rintro e w' ⟨rfl, rfl⟩
      go_wp2
      go_ret2
      exact ⟨by rw [HQ.out]; have := HQ2.out; have := HR.out; simp [*], below_dnW X.1 nn⟩
set_option maxHeartbeats 1000000 in
theorem wddivided_any (v c : Nat) (u : Bool) (w : World) (h : v < 1329227995784915872903807060280344576) (hc : 0 < c) (hc' : c ≤ 9223372036854775807) (hq : v / c < 4611686018427387904) :
    Calls Tryz.prog 136 #[Wv v, .int .i64 (c : Int), .bool u] w fun e w' => e = .returned (.tuple #[.int .i64 (qud v c u : Nat), .int .i64 0]) ∧ Below w.heap.size w w' := by
  have g : ((c : Int) == 0) = false := beq_eq_false_iff_ne.2 (by omega)
  have X := (Own.start w).alloc #[.int .i64 ((v / 1152921504606846976 : Nat) : Int), .int .i64 ((v % 1152921504606846976 : Nat) : Int)] 80
  have V := hide (fun W => wdvalid_any v W h)
  have U := hide (fun W => wdvalue_any v W h)
  have Q := hide (fun W => wdquotient_any v c u W hc hc' hq)
  clear h hc hc' hq
  go_enter Tryz.func136, Tryz.ntmps136
  go_wp2_with fail
  refine (V.out _).mono ?_
  rintro e w1 ⟨rfl, hb⟩
  replace X := X.to hb
  clear hb
  have hr := X.r1
  go_wp2_with fail
  refine (U.out _).mono ?_
  rintro e w2 ⟨rfl, hb⟩
  replace X := X.to hb
  clear hb hr
  have hr := X.r1
  go_wp2_with fail
  refine (Q.out _).mono ?_
  rintro e w3 ⟨rfl, hb⟩
  replace X := X.to hb
  clear hb hr
  go_wp2
  go_ret2
  exact ⟨rfl, X.1⟩
set_option maxHeartbeats 1000000 in
theorem wdfloor_any (v c : Nat) (w : World) (h : v < 1329227995784915872903807060280344576) (hc : 0 < c) (hc' : c ≤ 9223372036854775807) (hq : v / c < 4611686018427387904) :
    Calls Tryz.prog 119 #[Wv v, .int .i64 (c : Int)] w fun e w' => e = .returned (.tuple #[.int .i64 (qud v c false : Nat), .int .i64 0]) ∧ Below w.heap.size w w' := by
  have X := (Own.start w).alloc #[.int .i64 ((v / 1152921504606846976 : Nat) : Int), .int .i64 ((v % 1152921504606846976 : Nat) : Int)] 80
  have Q := hide (fun W => wddivided_any v c false W h hc hc' hq)
  clear h hc hc' hq
  go_enter Tryz.func119, Tryz.ntmps119
  go_wp2_with fail
  refine (Q.out _).mono ?_
  rintro e w3 ⟨rfl, hb⟩
  replace X := X.to hb
  clear hb
  go_wp2
  go_ret2
  exact ⟨rfl, X.1⟩
set_option maxHeartbeats 1000000 in
theorem wdceil_any (v c : Nat) (w : World) (h : v < 1329227995784915872903807060280344576) (hc : 0 < c) (hc' : c ≤ 9223372036854775807) (hq : v / c < 4611686018427387904) :
    Calls Tryz.prog 120 #[Wv v, .int .i64 (c : Int)] w fun e w' => e = .returned (.tuple #[.int .i64 (qud v c true : Nat), .int .i64 0]) ∧ Below w.heap.size w w' := by
  have X := (Own.start w).alloc #[.int .i64 ((v / 1152921504606846976 : Nat) : Int), .int .i64 ((v % 1152921504606846976 : Nat) : Int)] 80
  have Q := hide (fun W => wddivided_any v c true W h hc hc' hq)
  clear h hc hc' hq
  go_enter Tryz.func120, Tryz.ntmps120
  go_wp2_with fail
  refine (Q.out _).mono ?_
  rintro e w3 ⟨rfl, hb⟩
  replace X := X.to hb
  clear hb
  go_wp2
  go_ret2
  exact ⟨rfl, X.1⟩
set_option maxHeartbeats 1000000 in
theorem wdproduct_any (a b : Nat) (w : World) (h1 : a ≤ 9223372036854775807) (h2 : b ≤ 9223372036854775807) (h : a * b < 1329227995784915872903807060280344576) :
    Calls Tryz.prog 33 #[.int .i64 (a : Int), .int .i64 (b : Int)] w fun e w' => e = .returned (.tuple #[Wv (a * b), .int .i64 0]) ∧ Below w.heap.size w w' := by
  have X := (Own.start w).alloc #[.int .i64 0, .int .i64 0] 80
  have T := hide (fun W => wdtimes_any a b W h1 h2)
  have P := hide (fun W => wdplaced_any (a * b) W h)
  clear h1 h2 h
  go_enter Tryz.func33, Tryz.ntmps33
  go_wp2_with fail
  refine (T.out _).mono ?_
  rintro e w1 ⟨rfl, hb⟩
  replace X := X.to hb
  clear hb
  have hr := X.r1
  go_wp2_with fail
  refine (P.out _).mono ?_
  rintro e w2 ⟨rfl, hb⟩
  replace X := X.to hb
  clear hb hr
  have hr := X.r1
  go_wp2
  refine bodyPost_ret (v := .tuple #[Wv (a * b), .int .i64 0]) (by simp [results, Tryz.results33, hr, go_sem]) rfl ⟨rfl, ?_⟩
  exact below_set (below_set X.1 (by omega) _) (by omega) _
end Go.Proofs.YtlnlaopokelggaaGreatDoor

namespace Go.Proofs.YtlnlaopokelggaaGreatDoor
open Go Go.RowKit

/-- an integer as a wide one: two parts -/
abbrev WV (v : Int) : Value := .agg #[.int .i64 (v / 1152921504606846976), .int .i64 (v % 1152921504606846976)]
def wideB (v : Int) : Prop := -1267650600228229401496703205376 ≤ v ∧ v ≤ 1267650600228229401496703205376
theorem WV_nat (n : Nat) : WV (n : Int) = Wv n := by simp [WV, Wv]
theorem WN_nat (n : Nat) : WN (n : Int) = Nv n := by
  have h : ¬ ((n : Int) < 0) := by omega
  simp [WN, Nv, h]
theorem WN_neg {m : Nat} (h : 0 < m) : WN (-(m : Int)) = .agg #[.int .u64 ((m / 18446744073709551616 : Nat) : Int), .int .u64 ((m % 18446744073709551616 : Nat) : Int), .bool true] := by
  have e : (-(m : Int)).natAbs = m := by omega
  have h2 : (-(m : Int)) < 0 := by omega
  unfold WN
  rw [e, decide_eq_true h2]
theorem WV_neg0 {m : Nat} (h : m % 1152921504606846976 = 0) : WV (-(m : Int)) = .agg #[.int .i64 (-((m / 1152921504606846976 : Nat) : Int)), .int .i64 0] := by
  have e1 : -(m : Int) / 1152921504606846976 = -((m / 1152921504606846976 : Nat) : Int) := by omega
  have e2 : -(m : Int) % 1152921504606846976 = 0 := by omega
  unfold WV
  rw [e1, e2]
theorem WV_neg1 {m : Nat} (h : 0 < m % 1152921504606846976) : WV (-(m : Int)) = .agg #[.int .i64 (-((m / 1152921504606846976 : Nat) : Int) - 1), .int .i64 (1152921504606846976 - ((m % 1152921504606846976 : Nat) : Int))] := by
  have e1 : -(m : Int) / 1152921504606846976 = -((m / 1152921504606846976 : Nat) : Int) - 1 := by omega
  have e2 : -(m : Int) % 1152921504606846976 = 1152921504606846976 - ((m % 1152921504606846976 : Nat) : Int) := by omega
  unfold WV
  rw [e1, e2]
/-- what signed makes of the words of a magnitude -/
theorem WN_of {x : Int} {m : Nat} {b : Bool} (hm : x.natAbs = m) (hb : x ≠ 0 → decide (x < 0) = b) : WN x = .agg #[.int .u64 ((m / 18446744073709551616 : Nat) : Int), .int .u64 ((m % 18446744073709551616 : Nat) : Int), .bool (b && (((m / 18446744073709551616 : Nat) : Int) != 0 || ((m % 18446744073709551616 : Nat) : Int) != 0))] := by
  rw [split_zero m]
  unfold WN
  rw [hm]
  by_cases h : x = 0
  · subst h
    have : m = 0 := by simpa using hm.symm
    subst this
    simp
  · have : m ≠ 0 := by omega
    rw [← hb h]
    simp [this]
end Go.Proofs.YtlnlaopokelggaaGreatDoor

namespace Go.Proofs.YtlnlaopokelggaaGreatDoor
open Go.RowKit

set_option maxHeartbeats 400000 in
theorem wsize_any (n : Int) (w : World) (h1 : -9223372036854775808 ≤ n) (h2 : n ≤ 9223372036854775807) :
    Calls Tryz.prog 57 #[.int .i64 n] w fun e w' => e = .returned (.int .u64 (n.natAbs : Int)) ∧ w = w' := by
  by_cases h : n < 0
  all_goals
    go_enter Tryz.func57, Tryz.ntmps57
    go_wp2
    go_ret
    refine ⟨ret_int ?_, rfl⟩
    try simp only [IntKind.wrap_u64]
    omega
set_option maxHeartbeats 400000 in
theorem signed_any (h l : Int) (b : Bool) (w : World) :
    Calls Tryz.prog 56 #[.int .u64 h, .int .u64 l, .bool b] w fun e w' => e = .returned (.agg #[.int .u64 h, .int .u64 l, .bool (b && (h != 0 || l != 0))]) ∧ Below w.heap.size w w' := by
  cases b
  · go_enter Tryz.func56, Tryz.ntmps56
    go_wp2
    refine bodyPost_ret (v := .agg #[.int .u64 h, .int .u64 l, .bool false]) (by simp [results, Tryz.results56, go_sem]) rfl ⟨rfl, by go_grown⟩
  · rcases Bool.eq_false_or_eq_true (h != 0) with k | k
    all_goals
      go_enter Tryz.func56, Tryz.ntmps56
      go_wp2
      refine bodyPost_ret (v := .agg #[.int .u64 h, .int .u64 l, .bool (true && (h != 0 || l != 0))]) (by simp [results, Tryz.results56, go_sem, k]) rfl ⟨rfl, by go_grown⟩
set_option maxHeartbeats 400000 in
theorem times_any (a b : Int) (w : World) (h1 : -9223372036854775808 ≤ a) (h2 : a ≤ 9223372036854775807) (h3 : -9223372036854775808 ≤ b) (h4 : b ≤ 9223372036854775807) :
    Calls Tryz.prog 53 #[.int .i64 a, .int .i64 b] w fun e w' => e = .returned (WN (a * b)) ∧ Below w.heap.size w w' := by
  have ha : a.natAbs < 18446744073709551616 := by omega
  have hb : b.natAbs < 18446744073709551616 := by omega
  have X := (Own.start w).alloc #[.int .u64 0, .int .u64 0, .bool false] 105
  have HW := hide (wn_mul a b)
  go_enter Tryz.func53, Tryz.ntmps53
  go_wp2_with fail
  refine (wsize_any _ _ h1 h2).mono ?_
  rintro e w' ⟨rfl, rfl⟩
  go_wp2_with fail
  refine (wsize_any _ _ h3 h4).mono ?_
  rintro e w' ⟨rfl, rfl⟩
  go_wp2_with fail
  refine (Tryz.bits_Mul64 _ _ ha hb _).mono ?_
  rintro e w' ⟨rfl, rfl⟩
  go_wp2_with fail
  refine (signed_any _ _ _ _).mono ?_
  rintro e w1 ⟨rfl, hb1⟩
  replace X := X.to hb1
  clear hb1
  have hr := X.r1
  go_wp2
  refine bodyPost_ret (v := .agg #[.int .u64 ((a.natAbs * b.natAbs / 18446744073709551616 : Nat) : Int), .int .u64 ((a.natAbs * b.natAbs % 18446744073709551616 : Nat) : Int), .bool ((decide (a < 0) != decide (b < 0)) && (((a.natAbs * b.natAbs / 18446744073709551616 : Nat) : Int) != 0 || ((a.natAbs * b.natAbs % 18446744073709551616 : Nat) : Int) != 0))]) (by simp [results, Tryz.results53, hr, go_sem]; cases decide (a < 0) <;> cases decide (b < 0) <;> rfl) rfl ⟨by rw [HW.out], ?_⟩
  have HX := X.1
  have hz := HX.size
  go_grown
set_option maxHeartbeats 400000 in
theorem whole_any (n : Int) (b : Bool) (w : World) (h0 : 0 ≤ n) (h1 : n ≤ 18446744073709551615) :
    Calls Tryz.prog 61 #[.int .u64 n, .bool b] w fun e w' => e = .returned (.tuple #[.int .i64 (i64V (sgn n b)), .int .i64 (i64E (sgn n b))]) ∧ w = w' := by
  have hc : i64B (sgn n b) = true ∨ i64B (sgn n b) = false := by cases i64B (sgn n b) <;> simp
  cases b
  · by_cases h : n ≤ 9223372036854775807
    · have E := hide (i64_yes (x := sgn n false) (i64B_iff.2 (by simp [sgn]; omega)))
      clear hc
      go_enter Tryz.func61, Tryz.ntmps61
      go_wp2
      go_ret2
      exact ⟨ret2_int (by rw [E.out.2]; rfl) (by rw [E.out.1]), rfl⟩
    · have E := hide (i64_no (x := sgn n false) (by simp [i64B, sgn]; omega))
      clear hc
      go_enter Tryz.func61, Tryz.ntmps61
      go_wp2
      go_ret2
      exact ⟨ret2_int (by rw [E.out.2]) (by rw [E.out.1]), rfl⟩
  · by_cases h : n ≤ 9223372036854775808
    · have E := hide (i64_yes (x := sgn n true) (i64B_iff.2 (by simp [sgn]; omega)))
      clear hc
      go_enter Tryz.func61, Tryz.ntmps61
      go_wp2
      go_ret2
      refine ⟨ret2_int ?_ (by rw [E.out.1]), rfl⟩
      rw [E.out.2]
      simp only [sgn, if_true, IntKind.wrap_u64, wrap64]
      omega
    · have E := hide (i64_no (x := sgn n true) (by simp [i64B, sgn]; omega))
      clear hc
      go_enter Tryz.func61, Tryz.ntmps61
      go_wp2
      go_ret2
      exact ⟨ret2_int (by rw [E.out.2]) (by rw [E.out.1]), rfl⟩
theorem below_dn {B : Nat} {a w : World} (h : Below B a w) (n : Nat) : Below B a (w.drewN n) := ⟨h.os, h.tape, h.output, h.size, h.block⟩
theorem quo_parts {v b : Int} {m : Nat} {ng : Bool} (hb : b ≠ 0) (hm : v.natAbs = m) (hn : decide (v < 0) = ng) (u : Bool) : ∃ q r : Nat, q = m / b.natAbs ∧ r = m % b.natAbs ∧ (r ≠ 0 → q ≤ m / 2) ∧ q ≤ m ∧
    quo v b u = sgn ((q : Int) + if r ≠ 0 ∧ ((ng != decide (b < 0)) != u) = true then 1 else 0) (ng != decide (b < 0)) := by
  refine ⟨_, _, rfl, rfl, fun hr => ?_, Nat.div_le_self _ _, ?_⟩
  · have : b.natAbs ≠ 1 := fun e => hr (by rw [e, Nat.mod_one])
    exact Nat.div_le_div_left (by omega) (by omega)
  · rw [quo_magn hb u]
    unfold magn sgn
    rw [hm, hn]
    split <;> split <;> simp
theorem sgn_pos {x : Int} (hx : 0 ≤ x) : sgn x (decide (0 < x)) = sgn x true := by
  by_cases h : 0 < x
  · simp [sgn, h]
  · have : x = 0 := by omega
    subst this; rfl
def QuoPost (v b : Int) (u : Bool) (w : World) (e : Ending) (w' : World) : Prop := e = .returned (.tuple #[.int .i64 (i64V (quo v b u)), .int .i64 (i64E (quo v b u))]) ∧ Below w.heap.size w w'
theorem QuoPost.mk {v b : Int} {u : Bool} {w w' : World} {x : Int} (h : quo v b u = x) (hb : Below w.heap.size w w') : QuoPost v b u w (.returned (.tuple #[.int .i64 (i64V x), .int .i64 (i64E x)])) w' := by subst h; exact ⟨rfl, hb⟩
set_option maxHeartbeats 4000000 in
theorem quotient_low {v b : Int} {m : Nat} {ng : Bool} (hb : b ≠ 0) (hm : v.natAbs = m) (hn : decide (v < 0) = ng) (u : Bool) (w : World) (hm' : m < 18446744073709551616) (h1 : -9223372036854775808 ≤ b) (h2 : b ≤ 9223372036854775807) :
    Calls Tryz.prog 54 #[.agg #[.int .u64 0, .int .u64 m, .bool ng], .int .i64 b, .bool u] w (QuoPost v b u w) := by
  obtain ⟨q, r, hq, hr, hq2, hqm, HQ⟩ := quo_parts hb hm hn u
  replace HQ := hide HQ
  have Hq := hide hq
  have Hr := hide hr
  have d0 : 0 < b.natAbs := by omega
  have d1 : ¬ ((0 : Int) ≥ (b.natAbs : Int)) := by omega
  have d2 : b.natAbs < 18446744073709551616 := by omega
  have X := (Own.start w).alloc #[.int .u64 0, .int .u64 m, .bool ng] 105
  clear hq hr hm hn hb
  by_cases hr0 : r = 0
  · have HR0 := hide hr0
    have g1 : decide (0 < r) = false := by simp; omega
    clear hr0 hq2
    rcases Bool.eq_false_or_eq_true (decide (b < 0)) with hbn | hbn
    all_goals
      have HB := hide hbn
      cases ng
      all_goals
        go_enter Tryz.func54, Tryz.ntmps54
        go_wp2_with fail
        refine (wsize_any _ _ h1 h2).mono ?_
        rintro e w' ⟨rfl, rfl⟩
        have hr := X.r1
        go_wp2_with fail
        refine (div64_low m b.natAbs hm' d0 d2 _).mono ?_
        rintro e w1 ⟨rfl, nn, rfl⟩
        rw [← Hq.out, ← Hr.out]
        go_wp2_with fail
        refine (whole_any _ _ _ (by omega) (by omega)).mono ?_
        rintro e w' ⟨rfl, rfl⟩
        go_wp2
        go_ret2
        refine QuoPost.mk ?_ (below_dn X.1 nn)
        rw [HQ.out, HR0.out]
        have hq0 : (0 : Int) ≤ (q : Int) := by omega
        simp [HB.out, sgn] <;> omega
  · have HR0 := hide hr0
    have hq3 := hq2 hr0
    have g1 : decide (0 < r) = true := by simp; omega
    have g2 : ((q : Int) + 1 == 0) = false := by simp; omega
    have g3 : IntKind.u64.wrap ((q : Int) + 1) = (q : Int) + 1 := by rw [IntKind.wrap_u64]; omega
    clear hr0 hq2
    rcases Bool.eq_false_or_eq_true (decide (b < 0)) with hbn | hbn
    all_goals
      have HB := hide hbn
      cases ng
      all_goals
        cases u
        all_goals
          go_enter Tryz.func54, Tryz.ntmps54
          go_wp2_with fail
          refine (wsize_any _ _ h1 h2).mono ?_
          rintro e w' ⟨rfl, rfl⟩
          have hr := X.r1
          go_wp2_with fail
          refine (div64_low m b.natAbs hm' d0 d2 _).mono ?_
          rintro e w1 ⟨rfl, nn, rfl⟩
          rw [← Hq.out, ← Hr.out]
          go_wp2_with fail
          refine (whole_any _ _ _ (by omega) (by omega)).mono ?_
          rintro e w' ⟨rfl, rfl⟩
          go_wp2
          go_ret2
          refine QuoPost.mk ?_ (below_dn X.1 nn)
          rw [HQ.out]
          have hq0 : (0 : Int) ≤ (q : Int) := by omega
          simp [HB.out, HR0.out, sgn] <;> omega
theorem quotient_big {v b : Int} (hd : b.natAbs ≤ v.natAbs / 18446744073709551616) (hb : b ≠ 0) (u : Bool) (w : World) (h1 : -9223372036854775808 ≤ b) (h2 : b ≤ 9223372036854775807) :
    Calls Tryz.prog 54 #[WN v, .int .i64 b, .bool u] w (QuoPost v b u w) := by
  have hx : i64B (quo v b u) = false := by
    have hm : 18446744073709551616 ≤ magn v b u := by
      unfold magn
      have : 18446744073709551616 ≤ v.natAbs / b.natAbs := by
        rw [Nat.le_div_iff_mul_le (by omega)]
        have := Nat.div_mul_le_self v.natAbs 18446744073709551616
        have := Nat.mul_le_mul_left 18446744073709551616 hd
        omega
      omega
    rw [quo_magn hb u]
    simp only [i64B, decide_eq_false_iff_not]
    split <;> omega
  have E := hide (i64_no hx)
  have X := (Own.start w).alloc #[.int .u64 ((v.natAbs / 18446744073709551616 : Nat) : Int), .int .u64 ((v.natAbs % 18446744073709551616 : Nat) : Int), .bool (decide (v < 0))] 105
  have hd' : ((b.natAbs : Nat) : Int) ≤ ((v.natAbs / 18446744073709551616 : Nat) : Int) := by omega
  have E2 : QuoPost v b u w (.returned (.tuple #[.int .i64 0, .int .i64 5])) (w.alloc (.cells #[.int .u64 ((v.natAbs / 18446744073709551616 : Nat) : Int), .int .u64 ((v.natAbs % 18446744073709551616 : Nat) : Int), .bool (decide (v < 0))] 105)) := by
    refine ⟨?_, X.1⟩
    rw [E.out.1, E.out.2]
  have HE := hide E2
  clear hx hd hb E2
  unfold WN
  generalize ((v.natAbs / 18446744073709551616 : Nat) : Int) = hi at *
  generalize ((v.natAbs % 18446744073709551616 : Nat) : Int) = lo at *
  generalize decide (v < 0) = ng at *
  go_enter Tryz.func54, Tryz.ntmps54
  go_wp2_with fail
  refine (wsize_any _ _ h1 h2).mono ?_
  rintro e w' ⟨rfl, rfl⟩
  have hr := X.r1
  go_wp2
  go_ret2
  exact HE.out
theorem quotient_any {v b : Int} (hp : v.natAbs < 18446744073709551616 ∨ b.natAbs = 1) (hb : b ≠ 0) (u : Bool) (w : World) (h1 : -9223372036854775808 ≤ b) (h2 : b ≤ 9223372036854775807) :
    Calls Tryz.prog 54 #[WN v, .int .i64 b, .bool u] w (QuoPost v b u w) := by
  by_cases h : v.natAbs < 18446744073709551616
  · have e : WN v = .agg #[.int .u64 0, .int .u64 (v.natAbs : Int), .bool (decide (v < 0))] := by
      unfold WN
      rw [Nat.div_eq_of_lt h, Nat.mod_eq_of_lt h]
      rfl
    rw [e]
    exact quotient_low hb rfl rfl u w h h1 h2
  · exact quotient_big (by omega) hb u w h1 h2
theorem scE_cases (n m d : Int) (h : d ≠ 0) : (scE n m d = 0 ∧ i64B (dn (n * m) d) = true ∧ i64B (up (n * m) d) = true ∧ scLo n m d = dn (n * m) d ∧ scHi n m d = up (n * m) d) ∨
    (i64B (dn (n * m) d) = false ∧ scE n m d = 5 ∧ scLo n m d = 0 ∧ scHi n m d = 0) ∨ (i64B (dn (n * m) d) = true ∧ i64B (up (n * m) d) = false ∧ scE n m d = 5 ∧ scLo n m d = 0 ∧ scHi n m d = 0) := by
  unfold scE scLo scHi
  cases h1 : i64B (dn (n * m) d) <;> cases h2 : i64B (up (n * m) d) <;> simp [h]
set_option maxHeartbeats 1000000 in
theorem scale_any (n m d : Int) (w : World) (hd : d ≠ 0) (hp : (n * m).natAbs < 18446744073709551616 ∨ d.natAbs = 1) (h1 : -9223372036854775808 ≤ n) (h2 : n ≤ 9223372036854775807) (h3 : -9223372036854775808 ≤ m) (h4 : m ≤ 9223372036854775807) (h5 : -9223372036854775808 ≤ d) (h6 : d ≤ 9223372036854775807) :
    Calls Tryz.prog 31 #[.int .i64 n, .int .i64 m, .int .i64 d] w fun e w' => e = .returned (.tuple #[.int .i64 (scLo n m d), .int .i64 (scHi n m d), .int .i64 (scE n m d)]) ∧ Below w.heap.size w w' := by
  have hd' : (d == 0) = false := by simp [hd]
  have H0 := hide hd
  have HP := hide hp
  clear hp hd
  rcases scE_cases n m d H0.out with ⟨e1, e2, e3, e4, e5⟩ | ⟨e2, e1, e4, e5⟩ | ⟨e2, e3, e1, e4, e5⟩
  · have q1 := hide (i64_yes (x := quo (n * m) d false) e2)
    have q2 := hide (i64_yes (x := quo (n * m) d true) e3)
    rw [e1, e4, e5]
    clear e1 e2 e3 e4 e5
    go_enter Tryz.func31, Tryz.ntmps31
    go_wp2_with fail
    refine (times_any n m _ h1 h2 h3 h4).mono ?_
    rintro e w1 ⟨rfl, hb⟩
    have X := ((Own.start w).to hb).alloc #[.int .u64 (((n * m).natAbs / 18446744073709551616 : Nat) : Int), .int .u64 (((n * m).natAbs % 18446744073709551616 : Nat) : Int), .bool (decide (n * m < 0))] 105
    clear hb
    have hr := X.r1
    go_wp2_with fail
    refine (quotient_any (v := n * m) HP.out H0.out false _ h5 h6).mono ?_
    rintro e w2 ⟨rfl, hb⟩
    replace X := X.to hb
    clear hb hr
    have hr := X.r1
    rw [q1.out.1, q1.out.2]
    go_wp2_with fail
    refine (quotient_any (v := n * m) HP.out H0.out true _ h5 h6).mono ?_
    rintro e w3 ⟨rfl, hb⟩
    replace X := X.to hb
    clear hb hr
    rw [q2.out.1, q2.out.2]
    go_wp2
    go_ret3
    exact ⟨rfl, X.1⟩
  · have q1 := hide (i64_no (x := quo (n * m) d false) e2)
    rw [e1, e4, e5]
    clear e1 e2 e4 e5
    go_enter Tryz.func31, Tryz.ntmps31
    go_wp2_with fail
    refine (times_any n m _ h1 h2 h3 h4).mono ?_
    rintro e w1 ⟨rfl, hb⟩
    have X := ((Own.start w).to hb).alloc #[.int .u64 (((n * m).natAbs / 18446744073709551616 : Nat) : Int), .int .u64 (((n * m).natAbs % 18446744073709551616 : Nat) : Int), .bool (decide (n * m < 0))] 105
    clear hb
    have hr := X.r1
    go_wp2_with fail
    refine (quotient_any (v := n * m) HP.out H0.out false _ h5 h6).mono ?_
    rintro e w2 ⟨rfl, hb⟩
    replace X := X.to hb
    clear hb hr
    rw [q1.out.1, q1.out.2]
    go_wp2
    go_ret3
    exact ⟨rfl, X.1⟩
  · have q1 := hide (i64_yes (x := quo (n * m) d false) e2)
    have q2 := hide (i64_no (x := quo (n * m) d true) e3)
    rw [e1, e4, e5]
    clear e1 e2 e3 e4 e5
    go_enter Tryz.func31, Tryz.ntmps31
    go_wp2_with fail
    refine (times_any n m _ h1 h2 h3 h4).mono ?_
    rintro e w1 ⟨rfl, hb⟩
    have X := ((Own.start w).to hb).alloc #[.int .u64 (((n * m).natAbs / 18446744073709551616 : Nat) : Int), .int .u64 (((n * m).natAbs % 18446744073709551616 : Nat) : Int), .bool (decide (n * m < 0))] 105
    clear hb
    have hr := X.r1
    go_wp2_with fail
    refine (quotient_any (v := n * m) HP.out H0.out false _ h5 h6).mono ?_
    rintro e w2 ⟨rfl, hb⟩
    replace X := X.to hb
    clear hb hr
    have hr := X.r1
    rw [q1.out.1, q1.out.2]
    go_wp2_with fail
    refine (quotient_any (v := n * m) HP.out H0.out true _ h5 h6).mono ?_
    rintro e w3 ⟨rfl, hb⟩
    replace X := X.to hb
    clear hb hr
    rw [q2.out.1, q2.out.2]
    go_wp2
    go_ret3
    exact ⟨rfl, X.1⟩
end Go.Proofs.YtlnlaopokelggaaGreatDoor
