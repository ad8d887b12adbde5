/- math/bits.Div64, every high word below the divisor: quotient and rest; memory is left as it is. -/
import Derived.Test.YtnhimgabcljahaaGreatDoorDiv64
namespace Go.Proofs.YtnhimgabcljahaaGreatDoor
open Go.RowKit

theorem u64_nat {x : Nat} (h : x < 18446744073709551616) : IntKind.u64.wrap (x : Int) = (x : Int) := by rw [IntKind.wrap_u64]; omega
theorem u64_mod (x : Nat) : IntKind.u64.wrap (x : Int) = ((x % 18446744073709551616 : Nat) : Int) := by rw [IntKind.wrap_u64]; omega
theorem u64_and32 {x : Nat} (h : x < 18446744073709551616) : bits .and .u64 (x : Int) 4294967295 = ((x % 4294967296 : Nat) : Int) := by
  have e : x &&& 4294967295 = x % 4294967296 := Nat.and_two_pow_sub_one_eq_mod x 32
  have := bits_and_u64_nat x 4294967295 h (by omega)
  rw [e] at this
  exact this
theorem u64_or_nat {x y z : Nat} (h : x ||| y = z) (hx : x < 18446744073709551616) (hy : y < 18446744073709551616) : bits .or .u64 (x : Int) (y : Int) = (z : Int) := by
  have hz : x ||| y < 2 ^ 64 := Nat.or_lt_two_pow (by omega) (by omega)
  rw [← h]
  show IntKind.u64.wrap ((BitVec.ofInt 64 (x : Int) ||| BitVec.ofInt 64 (y : Int)).toNat : Int) = _
  rw [BitVec.toNat_or, BitVec.ofInt_natCast, BitVec.ofInt_natCast, BitVec.toNat_ofNat, BitVec.toNat_ofNat, Nat.mod_eq_of_lt (by omega), Nat.mod_eq_of_lt (by omega)]
  exact u64_nat (by omega)
theorem cast_pow (x p : Nat) : (x : Int) * 2 ^ p = ((x * 2 ^ p : Nat) : Int) := by rw [Int.natCast_mul, Int.natCast_pow]; rfl
theorem cast_div_pow (x p : Nat) : (x : Int) / 2 ^ p = ((x / 2 ^ p : Nat) : Int) := by rw [Int.natCast_ediv, Int.natCast_pow]; rfl
theorem u64_sub {x y z : Nat} (h : ((x : Int) - (y : Int)) % 18446744073709551616 = (z : Int)) (x' y' : Nat) (hx : x' = x % 18446744073709551616) (hy : y' = y % 18446744073709551616) : IntKind.u64.wrap ((x' : Int) - (y' : Int)) = (z : Int) := by
  rw [IntKind.wrap_u64, hx, hy]; omega
theorem e_div {x a q : Nat} (h : q = x / a) : (x : Int) / (a : Int) = (q : Int) := by rw [h, Int.natCast_ediv]
theorem e_mul {x y z : Nat} (h : z = x * y % 18446744073709551616) : IntKind.u64.wrap ((x : Int) * (y : Int)) = (z : Int) := by rw [← Int.natCast_mul, u64_mod, h]
theorem e_mul32 {x z : Nat} (h : z = x * 4294967296 % 18446744073709551616) : IntKind.u64.wrap ((x : Int) * 4294967296) = (z : Int) := by
  rw [h]; exact e_mul (y := 4294967296) rfl
theorem e_add {x y z : Nat} (h : z = (x + y) % 18446744073709551616) : IntKind.u64.wrap ((x : Int) + (y : Int)) = (z : Int) := by rw [← Int.natCast_add, u64_mod, h]
theorem e_sub {x y z : Nat} (hy : y ≤ x) (h : z = x - y) (hz : x < 18446744073709551616) : IntKind.u64.wrap ((x : Int) - (y : Int)) = (z : Int) := by
  rw [IntKind.wrap_u64, h]; omega
theorem e_join (u V : Nat) : (u * 4294967296 + V / 4294967296) * 4294967296 + V % 4294967296 = u * 18446744073709551616 + V := by omega
theorem e_rest {x y z k k3 : Nat} (h : ((x : Int) - (y : Int)) % 18446744073709551616 = (z : Int)) (h1 : k = x % 18446744073709551616) (h2 : k3 = y % 18446744073709551616) : IntKind.u64.wrap ((k : Int) - (k3 : Int)) = (z : Int) := u64_sub h k k3 h1 h2
theorem e_two {x n k k2 : Nat} (h1 : k = x * 4294967296 % 18446744073709551616) (h2 : k2 = (x * 4294967296 + n) % 18446744073709551616) : k2 = (k + n) % 18446744073709551616 := by rw [h1, h2]; omega
theorem lt64 {q : Nat} (h : q ≤ 4294967297) : q < 18446744073709551616 := by omega
theorem q_lt {Q Q2 : Nat} (h : Q < 4294967296) (h' : Q2 < 4294967296) : Q * 4294967296 + Q2 < 18446744073709551616 ∧ Q * 4294967296 < 18446744073709551616 := by omega
theorem mod_self' {x : Nat} (h : x < 18446744073709551616) : x = x % 18446744073709551616 := (Nat.mod_eq_of_lt h).symm
theorem mul_le_of {q a u r : Nat} (h : q * a + r = u) (hu : u < 18446744073709551616) : q * a < 18446744073709551616 ∧ q * a ≤ u ∧ r = u - q * a := by omega
theorem half_bd {Y : Nat} (h1 : 9223372036854775808 ≤ Y) (h2 : Y < 18446744073709551616) : 2147483648 ≤ Y / 4294967296 ∧ Y / 4294967296 < 4294967296 ∧ Y / 4294967296 * 4294967296 + Y % 4294967296 = Y := by omega
theorem half_lt {V : Nat} (h : V < 18446744073709551616) : V / 4294967296 < 4294967296 := by omega
theorem div64_inst (h l y s s' Y H L u V a b m n v Q Q2 w4 : Nat) (g5 : decide (y ≤ h) = false) (g3 : ((y : Int) == 0) = false) (g4 : ((h : Int) == 0) = false) (w : World)
    (LZ : Calls Tryz.prog 107 #[.int .u64 (y : Int)] w fun e w' => e = .returned (.int .i64 (s : Int)) ∧ w' = w)
    (s1 : s < 64) (E1 : IntKind.u64.wrap (s : Int) = (s : Int)) (E2 : min s 64 = s) (E3 : IntKind.u64.wrap ((y : Int) * 2 ^ s) = (Y : Int)) (ha : a = Y / 4294967296) (hb : b = Y % 4294967296)
    (E6 : IntKind.u64.wrap ((h : Int) * 2 ^ s) = (H : Int)) (E7 : IntKind.u64.wrap (64 - (s : Int)) = (s' : Int)) (E8 : min s' 64 = s') (E9 : (l : Int) / 2 ^ s' = (L : Int)) (E10 : bits .or .u64 (H : Int) (L : Int) = (u : Int))
    (E11 : IntKind.u64.wrap ((l : Int) * 2 ^ s) = (V : Int)) (hm : m = V / 4294967296) (hn : n = V % 4294967296)
    (a1 : 2147483648 ≤ a) (a2 : a < 4294967296) (b2 : b < 4294967296) (m2 : m < 4294967296) (n2 : n < 4294967296) (eY : a * 4294967296 + b = Y) (Y2 : Y < 18446744073709551616) (V2 : V < 18446744073709551616)
    (uY : u < Y) (hQ : Q = (u * 4294967296 + m) / Y) (hv : v = (u * 4294967296 + m) % Y) (hQ2 : Q2 = (v * 4294967296 + n) / Y) (hw : w4 = (v * 4294967296 + n) % Y) :
    Calls Tryz.prog 93 #[.int .u64 h, .int .u64 l, .int .u64 y] w fun e w' => e = .returned (.tuple #[.int .u64 ((Q * 4294967296 + Q2 : Nat) : Int), .int .u64 ((w4 / 2 ^ s : Nat) : Int)]) ∧ w = w' := by
  have Y0 : 0 < Y := by omega
  have vY : v < Y := by rw [hv]; exact Nat.mod_lt _ Y0
  have S1 := D64.start a1 b2 (by rw [eY]; exact uY)
  have S2 := D64.start (u := v) a1 b2 (by rw [eY]; exact vY)
  have T1 := D64.start_ge (u := u) (a := a) (b := b) (n := m) (by omega) m2
  have T2 := D64.start_ge (u := v) (a := a) (b := b) (n := n) (by omega) n2
  have Q1 : Q < 4294967296 := by rw [hQ]; exact D64.quo_small uY m2
  have Q22 : Q2 < 4294967296 := by rw [hQ2]; exact D64.quo_small vY n2
  have RW1 := D64.rest_word Y0 Y2 hQ
  have RW2 := D64.rest_word Y0 Y2 hQ2
  rw [← hv] at RW1
  rw [← hw] at RW2
  have u2 : u < 18446744073709551616 := by omega
  have v3 : v < 18446744073709551616 := by omega
  have M1 := mul_le_of S1.1 u2
  have M2 := mul_le_of S2.1 v3
  have QL := q_lt Q1 Q22
  obtain ⟨q0, hq0⟩ : ∃ q0, q0 = u / a := ⟨_, rfl⟩
  obtain ⟨r0, hr0⟩ : ∃ r0, r0 = u % a := ⟨_, rfl⟩
  obtain ⟨q2, hq2⟩ : ∃ q2, q2 = v / a := ⟨_, rfl⟩
  obtain ⟨r2, hr2⟩ : ∃ r2, r2 = v % a := ⟨_, rfl⟩
  rw [← hq0, ← hr0] at S1
  rw [← hq2, ← hr2] at S2
  rw [← hq0] at T1
  rw [← hq2] at T2
  rw [← hq0, ← hr0] at M1
  rw [← hq2, ← hr2] at M2
  have LTQ0 := lt64 S1.2.1
  have LTQ2 := lt64 S2.2.1
  obtain ⟨k1, hk1⟩ : ∃ k1, k1 = u * 4294967296 % 18446744073709551616 := ⟨_, rfl⟩
  obtain ⟨k2, hk2⟩ : ∃ k2, k2 = (u * 4294967296 + m) % 18446744073709551616 := ⟨_, rfl⟩
  obtain ⟨k3, hk3⟩ : ∃ k3, k3 = Q * Y % 18446744073709551616 := ⟨_, rfl⟩
  obtain ⟨j1, hj1⟩ : ∃ j1, j1 = v * 4294967296 % 18446744073709551616 := ⟨_, rfl⟩
  obtain ⟨j2, hj2⟩ : ∃ j2, j2 = (v * 4294967296 + n) % 18446744073709551616 := ⟨_, rfl⟩
  obtain ⟨j3, hj3⟩ : ∃ j3, j3 = Q2 * Y % 18446744073709551616 := ⟨_, rfl⟩
  exact div64_core h l y s s' Y a b H L u V m n q0 (q0 * a) r0 k1 k2 k3 v q2 (q2 * a) r2 (Q * 4294967296) (Q * 4294967296 + Q2) j1 j2 j3 w4 (w4 / 2 ^ s) Q Q2 g5 g3 g4 w LZ s1 E1 E2 E3
    (e_div (a := 4294967296) ha) (by rw [hb]; exact u64_and32 Y2) E6 E7 E8 E9 E10 E11 (e_div (a := 4294967296) hm) (by rw [hn]; exact u64_and32 V2) a1 a2 b2 m2 n2
    (e_div hq0) (u64_nat LTQ0) (e_mul (mod_self' M1.1)) (e_sub M1.2.1 M1.2.2 u2) ⟨S1.1, T1, S1.2.1, Nat.lt_trans S1.2.2 a2⟩ (hide (by rw [eY]; exact uY)) (hide (by rw [eY]; exact hQ))
    (e_mul32 hk1) (e_add (e_two hk1 hk2)) (e_mul hk3) (e_rest RW1 hk2 hk3) (e_div hq2) (u64_nat LTQ2) (e_mul (mod_self' M2.1)) (e_sub M2.2.1 M2.2.2 v3) ⟨S2.1, T2, S2.2.1, Nat.lt_trans S2.2.2 a2⟩ (hide (by rw [eY]; exact vY)) (hide (by rw [eY]; exact hQ2))
    (e_mul32 (mod_self' QL.2)) (e_add (mod_self' QL.1)) (e_mul32 hj1) (e_add (e_two hj1 hj2)) (e_mul hj3) (e_rest RW2 hj2 hj3) (cast_div_pow _ _)
theorem div64_pos (h l y : Nat) (h0 : 0 < h) (hh : h < y) (hl : l < 18446744073709551616) (hy : y < 18446744073709551616) (w : World) :
    Calls Tryz.prog 93 #[.int .u64 h, .int .u64 l, .int .u64 y] w fun e w' => e = .returned (.tuple #[.int .u64 (((h * 18446744073709551616 + l) / y : Nat) : Int), .int .u64 (((h * 18446744073709551616 + l) % y : Nat) : Int)]) ∧ w = w' := by
  obtain ⟨c1, b1, b2⟩ := bitLen_bd 64 y hy (Nat.le_refl _) (by omega)
  have c2 : Lib.bitLen y ≤ 64 := Lib.bitLen_le y 64 (Nat.le_refl _) hy
  have LZ := Tryz.bits_LeadingZeros64 (y : Int) w (by omega) (by omega)
  simp only [Int.toNat_natCast] at LZ
  generalize Lib.bitLen y = c at *
  obtain ⟨g1, g2, g3, g4, g5, g6⟩ := D64.shift_parts c1 c2 b1 b2 hh hl
  have LZ' : Calls Tryz.prog 107 #[.int .u64 (y : Int)] w fun e w' => e = .returned (.int .i64 ((64 - c : Nat) : Int)) ∧ w' = w := by
    have e : (64 : Int) - (c : Int) = ((64 - c : Nat) : Int) := by omega
    rw [e] at LZ
    exact LZ
  have hP : 0 < 2 ^ (64 - c) := Nat.two_pow_pos _
  have hL : l / 2 ^ c < 18446744073709551616 := Nat.lt_of_le_of_lt (Nat.div_le_self _ _) hl
  have shv := @D64.shift_div (h * 18446744073709551616 + l) y (2 ^ (64 - c)) hP
  have E3 : IntKind.u64.wrap ((y : Int) * 2 ^ (64 - c)) = ((y * 2 ^ (64 - c) : Nat) : Int) := by rw [cast_pow]; exact u64_nat g2
  have E6 : IntKind.u64.wrap ((h : Int) * 2 ^ (64 - c)) = ((h * 2 ^ (64 - c) : Nat) : Int) := by rw [cast_pow]; exact u64_nat g3
  have E11 : IntKind.u64.wrap ((l : Int) * 2 ^ (64 - c)) = ((l * 2 ^ (64 - c) % 18446744073709551616 : Nat) : Int) := by rw [cast_pow]; exact u64_mod _
  have E10 := u64_or_nat g4 g3 hL
  have V2 : l * 2 ^ (64 - c) % 18446744073709551616 < 18446744073709551616 := Nat.mod_lt _ (by decide)
  rw [← g5] at shv
  have g6' := g6
  obtain ⟨Y, hY⟩ : ∃ Y, Y = y * 2 ^ (64 - c) := ⟨_, rfl⟩
  obtain ⟨u, hu⟩ : ∃ u, u = h * 2 ^ (64 - c) + l / 2 ^ c := ⟨_, rfl⟩
  obtain ⟨V, hV⟩ : ∃ V, V = l * 2 ^ (64 - c) % 18446744073709551616 := ⟨_, rfl⟩
  rw [← hY] at E3 g1 g2 g6
  rw [← hu] at g6 E10
  rw [← hV] at E11 V2
  rw [← hY, ← hu, ← hV] at shv
  obtain ⟨v, hv⟩ : ∃ v, v = (u * 4294967296 + V / 4294967296) % Y := ⟨_, rfl⟩
  have Y0 : 0 < Y := Nat.lt_of_lt_of_le (by decide) g1
  have TS := D64.two_steps (N := u * 4294967296 + V / 4294967296) (n := V % 4294967296) Y0
  rw [e_join, ← hv] at TS
  rw [← shv.1, ← shv.2, TS.1, TS.2]
  obtain ⟨A1, A2, A3⟩ := half_bd g1 g2
  have A4 := half_lt V2
  exact div64_inst h l y (64 - c) c Y _ _ u V _ _ _ _ v _ _ _ (by simp; omega) (by simp; omega) (by simp; omega) w LZ' (by omega) (u64_nat (by omega)) (by omega) E3 rfl rfl E6 (by rw [IntKind.wrap_u64]; omega) (by omega) (cast_div_pow _ _) E10 E11 rfl rfl A1 A2 (Nat.mod_lt _ (by decide)) A4 (Nat.mod_lt _ (by decide)) A3 g2 V2 g6 rfl hv rfl rfl
/-- Div64, wherever the high word is below the divisor -/
theorem div64_any (h l y : Nat) (hh : h < y) (hl : l < 18446744073709551616) (hy : y < 18446744073709551616) (w : World) :
    Calls Tryz.prog 93 #[.int .u64 h, .int .u64 l, .int .u64 y] w fun e w' => e = .returned (.tuple #[.int .u64 (((h * 18446744073709551616 + l) / y : Nat) : Int), .int .u64 (((h * 18446744073709551616 + l) % y : Nat) : Int)]) ∧ ∃ n, w' = w.drewN n := by
  rcases Nat.eq_zero_or_pos h with h0 | h0
  · subst h0
    simp only [Nat.zero_mul, Nat.zero_add]
    exact div64_low l y hl (by omega) hy w
  · exact (div64_pos h l y h0 hh hl hy w).mono fun _ _ ⟨e, hw⟩ => ⟨e, 0, by rw [← hw]; rfl⟩
end Go.Proofs.YtnhimgabcljahaaGreatDoor
