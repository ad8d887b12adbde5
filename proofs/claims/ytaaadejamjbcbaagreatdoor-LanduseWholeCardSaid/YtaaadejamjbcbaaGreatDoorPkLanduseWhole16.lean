/- Parts of one proof, joined: math/bits.Div64, every high word below the divisor: quotient and rest; memory is left as it is. The program's part (chapter 15): what it returns; it leaves the world as it is but for draws. The program's Metres: the square metres, or the error; nothing that was there is turned. The examples of chapter 15: awake returns true; nothing that was there is turned. The law LanduseWhole returns true for every surface, inlets and classes; nothing that was there is turned (printed by gen_whl.py). -/
import Derived.Test.YtaaadejamjbcbaaGreatDoorPkLanduseWhole15
import Derived.Test.YtaaadejamjbcbaaGreatDoorPkLanduseWhole2
import Derived.Test.YtaaadejamjbcbaaGreatDoorShelf
import Derived.Test.YtaaadejamjbcbaaGreatDoorPkLanduseWhole8
import Derived.Test.YtaaadejamjbcbaaGreatDoorPkLanduseWhole14
import Derived.Test.YtaaadejamjbcbaaGreatDoorPkLanduseWhole4
import Derived.Test.YtaaadejamjbcbaaGreatDoorPkLanduseWhole3
import Derived.Test.YtaaadejamjbcbaaGreatDoorPkLanduseWhole9
import Derived.Test.YtaaadejamjbcbaaGreatDoorPkLanduseWhole11
namespace Go.Proofs.YtaaadejamjbcbaaGreatDoor
open Go.RowKit

theorem u64_nat {x : Nat} (h : x < 18446744073709551616) : IntKind.u64.wrap (x : Int) = (x : Int) := by rw [IntKind.wrap_u64]; omega
theorem u64_mod (x : Nat) : IntKind.u64.wrap (x : Int) = ((x % 18446744073709551616 : Nat) : Int) := by rw [IntKind.wrap_u64]; omega
theorem u64_and32 {x : Nat} (h : x < 18446744073709551616) : bits .and .u64 (x : Int) 4294967295 = ((x % 4294967296 : Nat) : Int) := by
  have e : x &&& 4294967295 = x % 4294967296 := Nat.and_two_pow_sub_one_eq_mod x 32
  have := bits_and_u64_nat x 4294967295 h (by omega)
  rw [e] at this
  exact this
theorem u64_or_nat {x y z : Nat} (h : x ||| y = z) (hx : x < 18446744073709551616) (hy : y < 18446744073709551616) : bits .or .u64 (x : Int) (y : Int) = (z : Int) := by
  have hz : x ||| y < 2 ^ 64 := Nat.or_lt_two_pow (by omega) (by omega)
  rw [← h]
  show IntKind.u64.wrap ((BitVec.ofInt 64 (x : Int) ||| BitVec.ofInt 64 (y : Int)).toNat : Int) = _
  rw [BitVec.toNat_or, BitVec.ofInt_natCast, BitVec.ofInt_natCast, BitVec.toNat_ofNat, BitVec.toNat_ofNat, Nat.mod_eq_of_lt (by omega), Nat.mod_eq_of_lt (by omega)]
  exact u64_nat (by omega)
theorem cast_pow (x p : Nat) : (x : Int) * 2 ^ p = ((x * 2 ^ p : Nat) : Int) := by rw [Int.natCast_mul, Int.natCast_pow]; rfl
theorem cast_div_pow (x p : Nat) : (x : Int) / 2 ^ p = ((x / 2 ^ p : Nat) : Int) := by rw [Int.natCast_ediv, Int.natCast_pow]; rfl
theorem u64_sub {x y z : Nat} (h : ((x : Int) - (y : Int)) % 18446744073709551616 = (z : Int)) (x' y' : Nat) (hx : x' = x % 18446744073709551616) (hy : y' = y % 18446744073709551616) : IntKind.u64.wrap ((x' : Int) - (y' : Int)) = (z : Int) := by
  rw [IntKind.wrap_u64, hx, hy]; omega
theorem e_div {x a q : Nat} (h : q = x / a) : (x : Int) / (a : Int) = (q : Int) := by rw [h, Int.natCast_ediv]
theorem e_mul {x y z : Nat} (h : z = x * y % 18446744073709551616) : IntKind.u64.wrap ((x : Int) * (y : Int)) = (z : Int) := by rw [← Int.natCast_mul, u64_mod, h]
theorem e_mul32 {x z : Nat} (h : z = x * 4294967296 % 18446744073709551616) : IntKind.u64.wrap ((x : Int) * 4294967296) = (z : Int) := by
  rw [h]; exact e_mul (y := 4294967296) rfl
theorem e_add {x y z : Nat} (h : z = (x + y) % 18446744073709551616) : IntKind.u64.wrap ((x : Int) + (y : Int)) = (z : Int) := by rw [← Int.natCast_add, u64_mod, h]
theorem e_sub {x y z : Nat} (hy : y ≤ x) (h : z = x - y) (hz : x < 18446744073709551616) : IntKind.u64.wrap ((x : Int) - (y : Int)) = (z : Int) := by
  rw [IntKind.wrap_u64, h]; omega
theorem e_join (u V : Nat) : (u * 4294967296 + V / 4294967296) * 4294967296 + V % 4294967296 = u * 18446744073709551616 + V := by omega
theorem e_rest {x y z k k3 : Nat} (h : ((x : Int) - (y : Int)) % 18446744073709551616 = (z : Int)) (h1 : k = x % 18446744073709551616) (h2 : k3 = y % 18446744073709551616) : IntKind.u64.wrap ((k : Int) - (k3 : Int)) = (z : Int) := u64_sub h k k3 h1 h2
theorem e_two {x n k k2 : Nat} (h1 : k = x * 4294967296 % 18446744073709551616) (h2 : k2 = (x * 4294967296 + n) % 18446744073709551616) : k2 = (k + n) % 18446744073709551616 := by rw [h1, h2]; omega
theorem lt64 {q : Nat} (h : q ≤ 4294967297) : q < 18446744073709551616 := by omega
theorem q_lt {Q Q2 : Nat} (h : Q < 4294967296) (h' : Q2 < 4294967296) : Q * 4294967296 + Q2 < 18446744073709551616 ∧ Q * 4294967296 < 18446744073709551616 := by omega
theorem mod_self' {x : Nat} (h : x < 18446744073709551616) : x = x % 18446744073709551616 := (Nat.mod_eq_of_lt h).symm
theorem mul_le_of {q a u r : Nat} (h : q * a + r = u) (hu : u < 18446744073709551616) : q * a < 18446744073709551616 ∧ q * a ≤ u ∧ r = u - q * a := by omega
theorem half_bd {Y : Nat} (h1 : 9223372036854775808 ≤ Y) (h2 : Y < 18446744073709551616) : 2147483648 ≤ Y / 4294967296 ∧ Y / 4294967296 < 4294967296 ∧ Y / 4294967296 * 4294967296 + Y % 4294967296 = Y := by omega
theorem half_lt {V : Nat} (h : V < 18446744073709551616) : V / 4294967296 < 4294967296 := by omega
theorem div64_inst (h l y s s' Y H L u V a b m n v Q Q2 w4 : Nat) (g5 : decide (y ≤ h) = false) (g3 : ((y : Int) == 0) = false) (g4 : ((h : Int) == 0) = false) (w : World)
    (LZ : Calls Tryz.prog 84 #[.int .u64 (y : Int)] w fun e w' => e = .returned (.int .i64 (s : Int)) ∧ w' = w)
    (s1 : s < 64) (E1 : IntKind.u64.wrap (s : Int) = (s : Int)) (E2 : min s 64 = s) (E3 : IntKind.u64.wrap ((y : Int) * 2 ^ s) = (Y : Int)) (ha : a = Y / 4294967296) (hb : b = Y % 4294967296)
    (E6 : IntKind.u64.wrap ((h : Int) * 2 ^ s) = (H : Int)) (E7 : IntKind.u64.wrap (64 - (s : Int)) = (s' : Int)) (E8 : min s' 64 = s') (E9 : (l : Int) / 2 ^ s' = (L : Int)) (E10 : bits .or .u64 (H : Int) (L : Int) = (u : Int))
    (E11 : IntKind.u64.wrap ((l : Int) * 2 ^ s) = (V : Int)) (hm : m = V / 4294967296) (hn : n = V % 4294967296)
    (a1 : 2147483648 ≤ a) (a2 : a < 4294967296) (b2 : b < 4294967296) (m2 : m < 4294967296) (n2 : n < 4294967296) (eY : a * 4294967296 + b = Y) (Y2 : Y < 18446744073709551616) (V2 : V < 18446744073709551616)
    (uY : u < Y) (hQ : Q = (u * 4294967296 + m) / Y) (hv : v = (u * 4294967296 + m) % Y) (hQ2 : Q2 = (v * 4294967296 + n) / Y) (hw : w4 = (v * 4294967296 + n) % Y) :
    Calls Tryz.prog 61 #[.int .u64 h, .int .u64 l, .int .u64 y] w fun e w' => e = .returned (.tuple #[.int .u64 ((Q * 4294967296 + Q2 : Nat) : Int), .int .u64 ((w4 / 2 ^ s : Nat) : Int)]) ∧ w = w' := by
  have Y0 : 0 < Y := by omega
  have vY : v < Y := by rw [hv]; exact Nat.mod_lt _ Y0
  have S1 := D64.start a1 b2 (by rw [eY]; exact uY)
  have S2 := D64.start (u := v) a1 b2 (by rw [eY]; exact vY)
  have T1 := D64.start_ge (u := u) (a := a) (b := b) (n := m) (by omega) m2
  have T2 := D64.start_ge (u := v) (a := a) (b := b) (n := n) (by omega) n2
  have Q1 : Q < 4294967296 := by rw [hQ]; exact D64.quo_small uY m2
  have Q22 : Q2 < 4294967296 := by rw [hQ2]; exact D64.quo_small vY n2
  have RW1 := D64.rest_word Y0 Y2 hQ
  have RW2 := D64.rest_word Y0 Y2 hQ2
  rw [← hv] at RW1
  rw [← hw] at RW2
  have u2 : u < 18446744073709551616 := by omega
  have v3 : v < 18446744073709551616 := by omega
  have M1 := mul_le_of S1.1 u2
  have M2 := mul_le_of S2.1 v3
  have QL := q_lt Q1 Q22
  obtain ⟨q0, hq0⟩ : ∃ q0, q0 = u / a := ⟨_, rfl⟩
  obtain ⟨r0, hr0⟩ : ∃ r0, r0 = u % a := ⟨_, rfl⟩
  obtain ⟨q2, hq2⟩ : ∃ q2, q2 = v / a := ⟨_, rfl⟩
  obtain ⟨r2, hr2⟩ : ∃ r2, r2 = v % a := ⟨_, rfl⟩
  rw [← hq0, ← hr0] at S1
  rw [← hq2, ← hr2] at S2
  rw [← hq0] at T1
  rw [← hq2] at T2
  rw [← hq0, ← hr0] at M1
  rw [← hq2, ← hr2] at M2
  have LTQ0 := lt64 S1.2.1
  have LTQ2 := lt64 S2.2.1
  obtain ⟨k1, hk1⟩ : ∃ k1, k1 = u * 4294967296 % 18446744073709551616 := ⟨_, rfl⟩
  obtain ⟨k2, hk2⟩ : ∃ k2, k2 = (u * 4294967296 + m) % 18446744073709551616 := ⟨_, rfl⟩
  obtain ⟨k3, hk3⟩ : ∃ k3, k3 = Q * Y % 18446744073709551616 := ⟨_, rfl⟩
  obtain ⟨j1, hj1⟩ : ∃ j1, j1 = v * 4294967296 % 18446744073709551616 := ⟨_, rfl⟩
  obtain ⟨j2, hj2⟩ : ∃ j2, j2 = (v * 4294967296 + n) % 18446744073709551616 := ⟨_, rfl⟩
  obtain ⟨j3, hj3⟩ : ∃ j3, j3 = Q2 * Y % 18446744073709551616 := ⟨_, rfl⟩
  exact div64_core h l y s s' Y a b H L u V m n q0 (q0 * a) r0 k1 k2 k3 v q2 (q2 * a) r2 (Q * 4294967296) (Q * 4294967296 + Q2) j1 j2 j3 w4 (w4 / 2 ^ s) Q Q2 g5 g3 g4 w LZ s1 E1 E2 E3
    (e_div (a := 4294967296) ha) (by rw [hb]; exact u64_and32 Y2) E6 E7 E8 E9 E10 E11 (e_div (a := 4294967296) hm) (by rw [hn]; exact u64_and32 V2) a1 a2 b2 m2 n2
    (e_div hq0) (u64_nat LTQ0) (e_mul (mod_self' M1.1)) (e_sub M1.2.1 M1.2.2 u2) ⟨S1.1, T1, S1.2.1, Nat.lt_trans S1.2.2 a2⟩ (hide (by rw [eY]; exact uY)) (hide (by rw [eY]; exact hQ))
    (e_mul32 hk1) (e_add (e_two hk1 hk2)) (e_mul hk3) (e_rest RW1 hk2 hk3) (e_div hq2) (u64_nat LTQ2) (e_mul (mod_self' M2.1)) (e_sub M2.2.1 M2.2.2 v3) ⟨S2.1, T2, S2.2.1, Nat.lt_trans S2.2.2 a2⟩ (hide (by rw [eY]; exact vY)) (hide (by rw [eY]; exact hQ2))
    (e_mul32 (mod_self' QL.2)) (e_add (mod_self' QL.1)) (e_mul32 hj1) (e_add (e_two hj1 hj2)) (e_mul hj3) (e_rest RW2 hj2 hj3) (cast_div_pow _ _)
theorem div64_pos (h l y : Nat) (h0 : 0 < h) (hh : h < y) (hl : l < 18446744073709551616) (hy : y < 18446744073709551616) (w : World) :
    Calls Tryz.prog 61 #[.int .u64 h, .int .u64 l, .int .u64 y] w fun e w' => e = .returned (.tuple #[.int .u64 (((h * 18446744073709551616 + l) / y : Nat) : Int), .int .u64 (((h * 18446744073709551616 + l) % y : Nat) : Int)]) ∧ w = w' := by
  obtain ⟨c1, b1, b2⟩ := bitLen_bd 64 y hy (Nat.le_refl _) (by omega)
  have c2 : Lib.bitLen y ≤ 64 := Lib.bitLen_le y 64 (Nat.le_refl _) hy
  have LZ := Tryz.bits_LeadingZeros64 (y : Int) w (by omega) (by omega)
  simp only [Int.toNat_natCast] at LZ
  generalize Lib.bitLen y = c at *
  obtain ⟨g1, g2, g3, g4, g5, g6⟩ := D64.shift_parts c1 c2 b1 b2 hh hl
  have LZ' : Calls Tryz.prog 84 #[.int .u64 (y : Int)] w fun e w' => e = .returned (.int .i64 ((64 - c : Nat) : Int)) ∧ w' = w := by
    have e : (64 : Int) - (c : Int) = ((64 - c : Nat) : Int) := by omega
    rw [e] at LZ
    exact LZ
  have hP : 0 < 2 ^ (64 - c) := Nat.two_pow_pos _
  have hL : l / 2 ^ c < 18446744073709551616 := Nat.lt_of_le_of_lt (Nat.div_le_self _ _) hl
  have shv := @D64.shift_div (h * 18446744073709551616 + l) y (2 ^ (64 - c)) hP
  have E3 : IntKind.u64.wrap ((y : Int) * 2 ^ (64 - c)) = ((y * 2 ^ (64 - c) : Nat) : Int) := by rw [cast_pow]; exact u64_nat g2
  have E6 : IntKind.u64.wrap ((h : Int) * 2 ^ (64 - c)) = ((h * 2 ^ (64 - c) : Nat) : Int) := by rw [cast_pow]; exact u64_nat g3
  have E11 : IntKind.u64.wrap ((l : Int) * 2 ^ (64 - c)) = ((l * 2 ^ (64 - c) % 18446744073709551616 : Nat) : Int) := by rw [cast_pow]; exact u64_mod _
  have E10 := u64_or_nat g4 g3 hL
  have V2 : l * 2 ^ (64 - c) % 18446744073709551616 < 18446744073709551616 := Nat.mod_lt _ (by decide)
  rw [← g5] at shv
  have g6' := g6
  obtain ⟨Y, hY⟩ : ∃ Y, Y = y * 2 ^ (64 - c) := ⟨_, rfl⟩
  obtain ⟨u, hu⟩ : ∃ u, u = h * 2 ^ (64 - c) + l / 2 ^ c := ⟨_, rfl⟩
  obtain ⟨V, hV⟩ : ∃ V, V = l * 2 ^ (64 - c) % 18446744073709551616 := ⟨_, rfl⟩
  rw [← hY] at E3 g1 g2 g6
  rw [← hu] at g6 E10
  rw [← hV] at E11 V2
  rw [← hY, ← hu, ← hV] at shv
  obtain ⟨v, hv⟩ : ∃ v, v = (u * 4294967296 + V / 4294967296) % Y := ⟨_, rfl⟩
  have Y0 : 0 < Y := Nat.lt_of_lt_of_le (by decide) g1
  have TS := D64.two_steps (N := u * 4294967296 + V / 4294967296) (n := V % 4294967296) Y0
  rw [e_join, ← hv] at TS
  rw [← shv.1, ← shv.2, TS.1, TS.2]
  obtain ⟨A1, A2, A3⟩ := half_bd g1 g2
  have A4 := half_lt V2
  exact div64_inst h l y (64 - c) c Y _ _ u V _ _ _ _ v _ _ _ (by simp; omega) (by simp; omega) (by simp; omega) w LZ' (by omega) (u64_nat (by omega)) (by omega) E3 rfl rfl E6 (by rw [IntKind.wrap_u64]; omega) (by omega) (cast_div_pow _ _) E10 E11 rfl rfl A1 A2 (Nat.mod_lt _ (by decide)) A4 (Nat.mod_lt _ (by decide)) A3 g2 V2 g6 rfl hv rfl rfl
/-- Div64, wherever the high word is below the divisor -/
theorem div64_any (h l y : Nat) (hh : h < y) (hl : l < 18446744073709551616) (hy : y < 18446744073709551616) (w : World) :
    Calls Tryz.prog 61 #[.int .u64 h, .int .u64 l, .int .u64 y] w fun e w' => e = .returned (.tuple #[.int .u64 (((h * 18446744073709551616 + l) / y : Nat) : Int), .int .u64 (((h * 18446744073709551616 + l) % y : Nat) : Int)]) ∧ ∃ n, w' = w.drewN n := by
  rcases Nat.eq_zero_or_pos h with h0 | h0
  · subst h0
    simp only [Nat.zero_mul, Nat.zero_add]
    exact div64_low l y hl (by omega) hy w
  · exact (div64_pos h l y h0 hh hl hy w).mono fun _ _ ⟨e, hw⟩ => ⟨e, 0, by rw [← hw]; rfl⟩
end Go.Proofs.YtaaadejamjbcbaaGreatDoor

namespace Go.Proofs.YtaaadejamjbcbaaGreatDoor
open Go.RowKit

theorem part_parts {T n S : Nat} (hT : T ≤ 1152921504606846976) (hn : n ≤ S) (h0 : 0 < S) :
    T * n / 18446744073709551616 < S ∧ T * n % 18446744073709551616 < 18446744073709551616 ∧ (T * n / 18446744073709551616 * 18446744073709551616 + T * n % 18446744073709551616) / S = T * n / S ∧ T * n / S ≤ T := by
  have hm : T * n ≤ 1152921504606846976 * S := Nat.mul_le_mul hT hn
  have ej : T * n / 18446744073709551616 * 18446744073709551616 + T * n % 18446744073709551616 = T * n := by omega
  have hq : T * n / S ≤ T := Nat.div_le_of_le_mul (by rw [Nat.mul_comm S T]; exact Nat.mul_le_mul_left T hn)
  exact ⟨by omega, Nat.mod_lt _ (by decide), by rw [ej], hq⟩
set_option maxRecDepth 100000 in
set_option maxHeartbeats 1000000 in
theorem lpart_any (T n S : Nat) (w : World) (hT : T ≤ 1152921504606846976) (hn : n ≤ S) (h0 : 0 < S) (hS : S ≤ 1152921504606846976) :
    Calls Tryz.prog 40 #[.int .i64 (T : Int), .int .i64 (n : Int), .int .i64 (S : Int)] w fun e w' => e = .returned (.int .i64 ((T * n / S : Nat) : Int)) ∧ ∃ m, w' = w.drewN m := by
  obtain ⟨f3, f4, f5, f8⟩ := part_parts hT hn h0
  have M64 := fun W => Tryz.bits_Mul64 T n (by omega) (by omega) W
  have D64 := fun W => div64_any (T * n / 18446744073709551616) (T * n % 18446744073709551616) S f3 f4 (by omega) W
  rw [f5] at D64
  have b1 : (T : Int) ≤ 1152921504606846976 := by omega
  have b2 : (n : Int) ≤ 1152921504606846976 := by omega
  have b3 : (S : Int) ≤ 1152921504606846976 := by omega
  generalize hQ : T * n / S = Q at *
  have b4 : (Q : Int) ≤ 1152921504606846976 := by omega
  clear f3 f4 f5 hQ
  generalize T * n / 18446744073709551616 = hi at *
  generalize T * n % 18446744073709551616 = lo at *
  generalize (hi * 18446744073709551616 + lo) % S = rs at *
  go_enter Tryz.func40, Tryz.ntmps40
  go_wp2_with fail
  refine (M64 _).mono ?_
  rintro e w' ⟨rfl, rfl⟩
  go_wp2_with fail
  refine (D64 _).mono ?_
  rintro e w' ⟨rfl, m, rfl⟩
  go_wp2
  go_ret
  exact ⟨rfl, m, rfl⟩
end Go.Proofs.YtaaadejamjbcbaaGreatDoor

namespace Go.Proofs.YtaaadejamjbcbaaGreatDoor
open Go.RowKit

theorem int_info15 : (Tryz.prog.info? 3).map (fun i => (i.zero, i.size, i.bytes)) = some (some (.int .i64 0), 1, 8) := by kernel_rfl
theorem below_dnM {B : Nat} {a w : World} (h : Below B a w) (n : Nat) : Below B a (w.drewN n) := ⟨h.os, h.tape, h.output, h.size, h.block⟩
def MePost (l : List Int) (w : World) (e : Ending) (w' : World) : Prop :=
  Below w.heap.size w w' ∧ ∃ (A : Option Addr) (cap : Nat), e = .returned (.tuple #[.slice A (meL l).length cap, .int .i64 (meE l)]) ∧ IntSl w' A (meL l) ∧ (meL l).length ≤ cap
theorem MePost.err {l : List Int} {w w' : World} {er : Int} (hb : Below w.heap.size w w') (he : meE l = er) (h0 : er ≠ 0) :
    MePost l w (.returned (.tuple #[.slice none 0 0, .int .i64 er])) w' := by
  have e1 : meL l = [] := by unfold meL; rw [he, if_neg h0]
  exact ⟨hb, none, 0, by rw [e1, he]; rfl, by rw [e1]; exact IntSl.nil _ _, by rw [e1]; exact Nat.le_refl _⟩
theorem me_bd {t S : Int} {l : List Int} (ht : 0 ≤ t) (ht' : t ≤ 1152921504606846976) (hS : 0 < S) (hw : wOk l) (hs : l.sum ≤ S) (i : Nat) (h : i < l.length) : 0 ≤ qK t S l (i + 1) - qK t S l i ∧ qK t S l (i + 1) - qK t S l i ≤ 1152921504606846976 := by
  have b1 := qK_bd ht hS hw hs (i + 1) (by omega)
  have b0 := qK_bd ht hS hw hs i (by omega)
  have m := qK_mono ht hS hw (show i ≤ i + 1 by omega) (by omega)
  omega
theorem shK_map (t S : Int) (l : List Int) : ∀ k, shK t S l k = (List.range k).map fun i => qK t S l (i + 1) - qK t S l i
  | 0 => rfl
  | k + 1 => by rw [shK, shK_map t S l k, List.range_succ, List.map_append]; rfl
def outF (t S : Int) (l : List Int) (k j : Nat) : Value := if j < k then .int .i64 (qK t S l (j + 1) - qK t S l j) else .int .i64 0
theorem outF_set (t S : Int) (l : List Int) (k n : Nat) : (mkRow n (outF t S l k)).setIfInBounds k (.int .i64 (qK t S l (k + 1) - qK t S l k)) = mkRow n (outF t S l (k + 1)) := by
  rw [mkRow_set]
  refine mkRow_congr fun i _ => ?_
  unfold outF
  by_cases h : i = k
  · subst h; rw [if_pos rfl, if_pos (by omega)]
  · rw [if_neg h]
    by_cases h2 : i < k
    · rw [if_pos h2, if_pos (by omega)]
    · rw [if_neg h2, if_neg (by omega)]
set_option maxRecDepth 100000 in
set_option maxHeartbeats 4000000 in
theorem metres_any (l : List Int) (A : Option Addr) (cap : Nat) (w : World) (hl : IntSl w A l) :
    Calls Tryz.prog 20 #[.slice A l.length cap] w (MePost l w) := by
  have hlen : l.length ≤ 9223372036854775807 := hl.1.1
  have HL := hide hl
  clear hl
  by_cases h1 : 1000 < l.length
  · have H := hide (meE_full h1)
    have c1 : decide ((1000 : Int) < (l.length : Int)) = true := decide_eq_true (by omega)
    clear h1
    go_enter Tryz.func20, Tryz.ntmps20
    go_wp2
    exact bodyPost_ret (v := .tuple #[.slice none 0 0, .int .i64 4]) (by simp [results, Tryz.results20, go_sem]) rfl (MePost.err (Below.refl _ _) H.out (by decide))
  have h1' : l.length ≤ 1000 := by omega
  have c1 : decide ((1000 : Int) < (l.length : Int)) = false := decide_eq_false (by omega)
  have EW := hide (fun k (hk : k < l.length) hx => meE_range h1' hk hx)
  have ER := hide (fun hw => meE_rest h1' hw)
  have Z := hide (cap_zero l)
  obtain ⟨i0, hi0, hz0, hz1, hz2⟩ := info_parts int_info15
  clear h1
  go_enter Tryz.func20, Tryz.ntmps20
  go_wp2
  go_loop [4, 5, 20] (fun v4 v5 v20 => ∃ k : Nat, k ≤ l.length ∧ v20 = .int .i64 k ∧ v4 = .int .i64 (capS l k) ∧ v5 = .bool (bigS l k) ∧ Hid (∀ i (h : i < l.length), i < k → 0 ≤ l[i] ∧ l[i] ≤ 1152921504606846976)) (fun _ _ v20 => l.length - (intOf v20).toNat)
  case atStart => exact ⟨0, Nat.zero_le _, rfl, by rw [Z.out.1], by rw [Z.out.2], hide (fun _ _ h => by omega)⟩
  case round =>
    obtain ⟨k, hk, rfl, rfl, rfl, HW⟩ := hrel
    by_cases hlt : k < l.length
    · obtain ⟨b, off, rfl, hbl, hat⟩ := HL.out.2 (by omega)
      have c0 := hat k hlt
      clear hat
      have W1 := hide (fun W => luwithin_any l[k] 1152921504606846976 W)
      rcases Bool.eq_false_or_eq_true (inB l[k] 1152921504606846976) with hx | hx
      · have hx' := inB_iff.1 hx
        rw [hx] at W1
        have HW' : Hid (∀ i (h : i < l.length), i < k + 1 → 0 ≤ l[i] ∧ l[i] ≤ 1152921504606846976) := hide fun i h hi => by
          by_cases e : i = k
          · subst e; exact hx'
          · exact HW.out i h (by omega)
        have CS : 0 ≤ capS l k ∧ capS l k ≤ 1152921504606846976 ∧ (1152921504606846976 < capS l k + l[k] → capS l (k + 1) = 1152921504606846976 ∧ bigS l (k + 1) = true) ∧ (capS l k + l[k] ≤ 1152921504606846976 → capS l (k + 1) = capS l k + l[k] ∧ bigS l (k + 1) = bigS l k) := cap_stepK HW'.out hlt
        obtain ⟨s0, s1, s2, s3⟩ := CS
        obtain ⟨x0, x1⟩ := hx'
        clear hx
        generalize capS l k = s at *
        generalize bigS l k = g at *
        generalize l[k] = x at *
        by_cases hc : 1152921504606846976 < s + x
        · have d2 : decide (1152921504606846976 < s + x) = true := decide_eq_true hc
          have S2 := hide (s2 hc)
          clear s2 s3 hc
          go_wp2_with fail
          refine (W1.out _).mono ?_
          rintro e w' ⟨rfl, rfl⟩
          go_wp2
          go_round
          case rel => exact ⟨k + 1, by omega, by go_num, by rw [S2.out.1], by rw [S2.out.2], HW'⟩
          case measure => simp [intOf]; omega
        · have d2 : decide (1152921504606846976 < s + x) = false := decide_eq_false hc
          have S2 := hide (s3 (by omega))
          clear s2 s3 hc
          go_wp2_with fail
          refine (W1.out _).mono ?_
          rintro e w' ⟨rfl, rfl⟩
          go_wp2
          go_round
          case rel => exact ⟨k + 1, by omega, by go_num, by rw [S2.out.1], by rw [S2.out.2], HW'⟩
          case measure => simp [intOf]; omega
      · have H := hide (EW.out k hlt (fun h => by have := inB_iff.2 h; rw [hx] at this; cases this))
        rw [hx] at W1
        clear hx
        generalize l[k] = x at *
        go_wp2_with fail
        refine (W1.out _).mono ?_
        rintro e w' ⟨rfl, rfl⟩
        go_wp2
        exact bodyPost_ret (v := .tuple #[.slice none 0 0, .int .i64 2]) (by simp [results, Tryz.results20, go_sem]) rfl (MePost.err (Below.refl _ _) H.out (by decide))
    · have e : k = l.length := by omega
      subst e
      have HW2 : Hid (wOk l) := hide fun i h => HW.out i h h
      have CA := cap_all (l := l)
      have E := ER.out HW2.out
      rw [CA.1, CA.2]
      clear HW CA
      by_cases hb : 1152921504606846976 < l.sum
      · rw [if_pos hb] at E
        rw [if_pos hb, decide_eq_true hb]
        have H := hide E
        clear E hb
        go_wp2
        exact bodyPost_ret (v := .tuple #[.slice none 0 0, .int .i64 5]) (by simp [results, Tryz.results20, go_sem]) rfl (MePost.err (Below.refl _ _) H.out (by decide))
      rw [if_neg hb] at E
      rw [if_neg hb, decide_eq_false hb]
      have hp := sum_nonneg HW2.out
      obtain ⟨SS, hSS⟩ : ∃ SS : Nat, l.sum = (SS : Int) := ⟨l.sum.toNat, by omega⟩
      have hS1 : SS ≤ 1152921504606846976 := by omega
      have MK : ∀ W : World, (Instr.makeSlice 35 (.int .i64 (l.length : Int)) (.int .i64 (l.length : Int))).run Tryz.prog W = .ok (.slice (some ⟨W.heap.size, 0, none⟩) l.length l.length) (W.alloc (.cells (mkRow l.length (outF ((SS / 2000000 : Nat) : Int) (SS : Int) l 0)) 3)) := fun W => by
        have := run_make_rowN (P := Tryz.prog) 35 3 i0 (.int .i64 0) Tryz.underlying35 hi0 hz0 .i64 .i64 l.length l.length (by omega) (by rw [hz2]; omega) (by omega) W
        rw [hz1, Nat.mul_one] at this
        rw [show mkRow l.length (outF ((SS / 2000000 : Nat) : Int) (SS : Int) l 0) = madeCells (Value.int .i64 0).cells l.length from (mkRow_made l.length (.int .i64 0)).symm]
        exact this
      have X := (Own.start w).alloc (mkRow l.length (outF ((SS / 2000000 : Nat) : Int) (SS : Int) l 0)) 3
      have eL0 : meL l = shK (l.sum / 2000000) l.sum l l.length := by unfold meL; rw [E, if_pos rfl]
      by_cases hz : SS = 0
      · subst hz
        rw [hSS]
        have eL : meL l = (List.range l.length).map (fun _ => (0 : Int)) := by
          rw [eL0, hSS, show ((0 : Nat) : Int) / 2000000 = 0 by decide, show ((0 : Nat) : Int) = 0 from rfl, shK_none]
          exact (by simp [List.map_const'])
        have FIN := hide (And.intro X (And.intro eL E))
        clear X eL eL0 E hb hp hSS
        go_wp2
        refine bodyPost_ret (v := .tuple #[.slice (some ⟨w.heap.size, 0, none⟩) l.length l.length, .int .i64 0]) (by simp [results, Tryz.results20, go_sem]) rfl ?_
        obtain ⟨Y, eL, E⟩ := FIN.out
        refine ⟨Y.1, some ⟨w.heap.size, 0, none⟩, l.length, by rw [eL, E]; simp, ?_, by rw [eL]; simp⟩
        rw [eL]
        exact IntSl.of_blk (t := 3) (f := fun _ => 0) (Y.2 _ (List.mem_cons_self ..)) (by omega) (fun i hi => by omega)
      have hS0 : 0 < SS := by omega
      have d3 : ((SS : Int) == 0) = false := by simp; omega
      have hS2 : (SS : Int) ≤ 1152921504606846976 := by omega
      obtain ⟨T, hT⟩ : ∃ T : Nat, T = SS / 2000000 := ⟨_, rfl⟩
      have hT1 : T ≤ 1152921504606846976 := by omega
      have eT : (SS : Int).tdiv 2000000 = (T : Int) := by rw [Int.tdiv_eq_ediv_of_nonneg (by omega), hT]; rfl
      have eT2 := IntWalk.i64_in ((SS : Int).tdiv 2000000) (by rw [eT]; omega)
      rw [eT] at eT2
      rw [← hT] at MK X
      have ST := hide (fun k (hk : k < l.length) => share_step hT1 hSS hS0 hS1 HW2.out k hk)
      have HE := hide (And.intro E (And.intro hSS (And.intro hS0 (And.intro hS1 (And.intro hT (And.intro hT1 eL0))))))
      rw [hSS]
      clear E hb hp hSS hS1 hT hT1 eL0
      have XH := hide X
      clear X
      go_wp2
      clear MK eT eT2
      go_loopw [10, 11, 44] (fun v10 v11 v44 wr => ∃ k : Nat, k ≤ l.length ∧ v44 = .int .i64 k ∧ v11 = .int .i64 (preS l k) ∧ v10 = .int .i64 (qK (T : Int) (SS : Int) l k) ∧
        Hid (Own w wr [(w.heap.size, 3, mkRow l.length (outF (T : Int) (SS : Int) l k))])) (fun _ _ v44 _ => l.length - (intOf v44).toNat)
      case atStart => exact ⟨0, Nat.zero_le _, rfl, by rw [preS_zero], by rw [qK_zero], XH⟩
      case round =>
        obtain ⟨k, hk, rfl, rfl, rfl, HR⟩ := hrel
        by_cases hlt : k < l.length
        · obtain ⟨b, off, rfl, hbl, hat⟩ := (HL.out.below HR.out.1).2 (by omega)
          have c0 := hat k hlt
          obtain ⟨F, Q, f1, f2, f3, f4, f5, f6, f7, f8, f9, f10, f11⟩ := ST.out k hlt
          have PA := hide (fun W => lpart_any T F SS W HE.out.2.2.2.2.2.1 f2 hS0 HE.out.2.2.2.1)
          have eQ : T * F / SS = Q := by
            have : (T : Int) * (F : Int) / (SS : Int) = (Q : Int) := by rw [← f6]; unfold qK; rw [f1]
            exact_mod_cast this
          rw [eQ] at PA
          have eF : preS l k + l[k] = (F : Int) := by rw [← f1, preS_succ l k hlt]
          have EQ := hide (And.intro f1 f6)
          have b2 : (F : Int) ≤ 1152921504606846976 := by omega
          have b3 : (Q : Int) ≤ 1152921504606846976 := by omega
          have cz := (HR.out.r1.1 k).trans (mkRow_at l.length (outF (T : Int) (SS : Int) l k) hlt)
          rw [show outF (T : Int) (SS : Int) l k k = .int .i64 0 by simp [outF]] at cz
          have fz := HR.out.r1.2.1 k
          have hlw := HR.out.r1.2.2
          have STW := hide (fun (wr' : World) (h : Own w wr' [(w.heap.size, 3, mkRow l.length (outF (T : Int) (SS : Int) l k))]) => (by
            have := h.set0 (Nat.le_refl _) (by intro y hy; simp at hy) k (.int .i64 (qK (T : Int) (SS : Int) l (k + 1) - qK (T : Int) (SS : Int) l k))
            rw [outF_set] at this
            rw [f6] at this
            exact this : Own w (wr'.setCell ⟨w.heap.size, k, none⟩ (.int .i64 ((Q : Int) - qK (T : Int) (SS : Int) l k))) [(w.heap.size, 3, mkRow l.length (outF (T : Int) (SS : Int) l (k + 1)))]))
          clear hat f1 f2 f3 f4 f5 f6 f7 eQ
          generalize preS l k = p at *
          generalize qK (T : Int) (SS : Int) l k = q at *
          generalize l[k] = x at *
          go_wp2_with fail
          refine (PA.out _).mono ?_
          rintro e w' ⟨rfl, m, rfl⟩
          have HR2 := hide (STW.out _ (show Own w (wr.drewN m) _ from ⟨below_dnM HR.out.1 m, fun x hx => (HR.out.2 x hx).drewN m⟩))
          have cz2 : (wr.drewN m).cell? ⟨w.heap.size, k, none⟩ = some (.int .i64 0) := cz
          have fz2 : (wr.drewN m).frozen? ⟨w.heap.size, k, none⟩ = false := fz
          clear STW cz fz HR c0
          generalize World.drewN _ m = W at *
          go_wp2
          go_roundw
          case rel => exact ⟨k + 1, by omega, by go_num, by rw [EQ.out.1], by rw [EQ.out.2], HR2⟩
          case measure => simp [intOf]; omega
        · have e : k = l.length := by omega
          subst e
          obtain ⟨E, e1, e2, e3, e4, e5, e6⟩ := HE.out
          have eS : l.sum / 2000000 = (T : Int) := by rw [e1, e4]; rfl
          have eL : meL l = (List.range l.length).map fun i => qK (T : Int) (SS : Int) l (i + 1) - qK (T : Int) (SS : Int) l i := by rw [e6, eS, e1, shK_map]
          have hbd : ∀ i, i < l.length → -9223372036854775808 ≤ qK (T : Int) (SS : Int) l (i + 1) - qK (T : Int) (SS : Int) l i ∧ qK (T : Int) (SS : Int) l (i + 1) - qK (T : Int) (SS : Int) l i ≤ 9223372036854775807 := fun i h => by
            have := me_bd (t := (T : Int)) (S := (SS : Int)) (by omega) (by omega) (by omega) HW2.out (by omega) i h
            omega
          have B := HR.out.2 _ (List.mem_cons_self ..)
          have LB : IntSl wr (some ⟨w.heap.size, 0, none⟩) ((List.range l.length).map fun i => qK (T : Int) (SS : Int) l (i + 1) - qK (T : Int) (SS : Int) l i) := by
            refine IntSl.of_blk (t := 3) (f := fun i => qK (T : Int) (SS : Int) l (i + 1) - qK (T : Int) (SS : Int) l i) ?_ (by omega) hbd
            rw [mkRow_congr (g := outF (T : Int) (SS : Int) l l.length) (fun i hi => by simp [outF, hi])]
            exact B
          have FIN := hide (And.intro HR.out.1 (And.intro LB (And.intro eL E)))
          clear LB B hbd eL E e1 e2 e3 e4 e5 e6 eS
          go_wp2
          exact bodyPost_ret (v := .tuple #[.slice (some ⟨w.heap.size, 0, none⟩) l.length l.length, .int .i64 0]) (by simp [results, Tryz.results20, go_sem]) rfl
            ⟨FIN.out.1, some ⟨w.heap.size, 0, none⟩, l.length, by rw [FIN.out.2.2.1, FIN.out.2.2.2]; simp, by rw [FIN.out.2.2.1]; exact FIN.out.2.1, by rw [FIN.out.2.2.1]; simp⟩
end Go.Proofs.YtaaadejamjbcbaaGreatDoor

namespace Go.Proofs.YtaaadejamjbcbaaGreatDoor
open Go Go.RowKit

def gcls : Cls := ⟨⟨#[103, 97, 114, 100, 101, 110]⟩, 250, 100, 400, 100⟩
def gtxt : List UInt8 := [103, 97, 114, 100, 101, 110, 32, 50, 53, 48, 32, 49, 48, 48, 32, 52, 48, 48, 32, 49, 48, 48, 10]
theorem g_valid : validB [gcls] = true := by rw [validB_one]; decide +kernel
theorem g_text : txL [gcls] = gtxt := by decide +kernel
theorem g_read : prsF gtxt = ([gcls], 0, 0) := by
  unfold prsF
  rw [if_neg (by decide), ← g_text]
  exact read_text g_valid
theorem g_met : meE [3000000, 3000000, 2000000] = 0 ∧ meL [3000000, 3000000, 2000000] = [1, 2, 1] := by decide +kernel
theorem IntSl.of_own15 {w W : World} {b : Nat} {t : TypeId} {c0 : Array Value} {L : List (Nat × TypeId × Array Value)} (h : Own w W ((b, t, c0) :: L)) (l : List Int) (e : c0 = (l.map (Value.int .i64)).toArray)
    (hl : l.length ≤ 9223372036854775807 ∧ ∀ i (h : i < l.length), -9223372036854775808 ≤ l[i] ∧ l[i] ≤ 9223372036854775807) : IntSl W (some ⟨b, 0, none⟩) l :=
  ⟨hl, fun _ => ⟨b, 0, rfl, h.r1.2.2, fun i hi => by rw [h.r1.1 (0 + i), e]; simp [hi]⟩⟩
theorem small315 (x y z : Int) (hx : 0 ≤ x ∧ x ≤ 3000000) (hy : 0 ≤ y ∧ y ≤ 3000000) (hz : 0 ≤ z ∧ z ≤ 3000000) : [x, y, z].length ≤ 9223372036854775807 ∧ ∀ i (h : i < [x, y, z].length), -9223372036854775808 ≤ [x, y, z][i] ∧ [x, y, z][i] ≤ 9223372036854775807 := by
  refine ⟨by simp, fun i h => ?_⟩
  match i, h with
  | 0, _ => simp; omega
  | 1, _ => simp; omega
  | 2, _ => simp; omega
set_option maxRecDepth 100000 in
set_option maxHeartbeats 2000000 in
theorem awake_any (w : World) (ht : TxtW w) : Calls Tryz.prog 6 #[] w (RetV (.bool true) w) := by
  have X := Own.start w
  have HT := hide ht
  have P := hide (fun W hW => parse_any gtxt W (by decide) hW)
  have M := hide (fun W A c h => metres_any [3000000, 3000000, 2000000] A c W h)
  have V := hide (fun W A c h => luvalid_any [gcls] A c W h)
  have EQ := hide (fun W A B c c' h h' => equalI_any [1, 2, 1] [1, 2, 1] A B c c' W h h')
  rw [g_valid] at V
  clear ht
  unfold PrsPost at P
  rw [g_read] at P
  simp only [show colI 0 = 0 from rfl] at P
  unfold MePost at M
  rw [g_met.1, g_met.2] at M
  go_enter Tryz.func6, Tryz.ntmps6
  go_wp2_with fail
  refine (P.out _ HT.out).mono ?_
  rintro e w1 ⟨hb, A, c, rfl, hsl, hcp⟩
  obtain ⟨bb, off, rfl, hbl, hat⟩ := hsl.2 (by simp)
  obtain ⟨c0, c1, c2, c3, c4⟩ := hat 0 (by simp)
  simp only [List.getElem_cons_zero, Nat.zero_mul, Nat.add_zero] at c0 c1 c2 c3 c4
  have SL := hide hsl
  replace X := (X.to hb).alloc #[.int .i64 0, .int .i64 0] 51
  replace X := X.alloc #[.int .i64 3000000, .int .i64 3000000, .int .i64 2000000] 3
  simp only [World.size_alloc] at X
  have hb0 := hb.size
  clear hb hsl hat
  have MS := hide (IntSl.of_own15 X [3000000, 3000000, 2000000] rfl (small315 _ _ _ (by omega) (by omega) (by omega)))
  have hr := X.r2
  go_wp2_with fail
  refine (M.out _ _ 3 MS.out).mono ?_
  rintro e w2 ⟨hb, A2, cc, rfl, hm, hmc⟩
  have hbw : Below w1.heap.size w1 w2 := below_via (((Below.refl _ w1).alloc (Nat.le_refl _) _).alloc (by simp) _) (by simp; omega) hb
  have d0 := (hbw.cell (p := ⟨bb, off, none⟩) hbl).trans c0
  have d1 := (hbw.cell (p := ⟨bb, off + 1, none⟩) hbl).trans c1
  have d2 := (hbw.cell (p := ⟨bb, off + 2, none⟩) hbl).trans c2
  have d3 := (hbw.cell (p := ⟨bb, off + 3, none⟩) hbl).trans c3
  have d4 := (hbw.cell (p := ⟨bb, off + 4, none⟩) hbl).trans c4
  have SL2 := hide (SL.out.below hbw)
  replace X := X.to hb
  have hr2 := X.r2
  replace X := X.alloc #[.int .i64 1, .int .i64 2, .int .i64 1] 3
  have hm2 := hide (hm.below ((Below.refl _ w2).alloc (Nat.le_refl _) (.cells #[.int .i64 1, .int .i64 2, .int .i64 1] 3)))
  have MS2 := hide (IntSl.of_own15 X [1, 2, 1] rfl (small315 _ _ _ (by omega) (by omega) (by omega)))
  have SL3 := hide (SL2.out.below ((Below.refl _ w2).alloc (Nat.le_refl _) (.cells #[.int .i64 1, .int .i64 2, .int .i64 1] 3)))
  have e0 : gcls.nm = ⟨#[103, 97, 114, 100, 101, 110]⟩ := rfl
  have e1 : gcls.se = 250 := rfl
  have e2 : gcls.we = 100 := rfl
  have e3 : gcls.ro = 400 := rfl
  have e4 : gcls.dr = 100 := rfl
  rw [e0] at d0
  rw [e1] at d1
  rw [e2] at d2
  rw [e3] at d3
  rw [e4] at d4
  clear hr c0 c1 c2 c3 c4 hb hbw hm e0 e1 e2 e3 e4
  go_wp2_with fail
  refine (EQ.out _ _ _ cc 3 hm2.out MS2.out).mono ?_
  rintro e w3 ⟨rfl, hb⟩
  have SL4 := hide (SL3.out.below hb)
  replace X := X.to hb
  clear hb hr2
  rw [show eqB [1, 2, 1] [1, 2, 1] = true from by decide]
  go_wp2_with fail
  refine (V.out _ _ c SL4.out).mono ?_
  rintro e w4 ⟨rfl, hb⟩
  replace X := X.to hb
  clear hb
  go_wp2
  go_ret
  exact ⟨rfl, X.1⟩
end Go.Proofs.YtaaadejamjbcbaaGreatDoor

namespace Go.Proofs.YtaaadejamjbcbaaGreatDoor
open Go Go.RowKit

def lgB3 (m : Msh) : Bool := decide (60 < m.ss.length) || decide (80 < m.fs.length)
set_option maxHeartbeats 1000000 in
theorem lglarge3_any (m : Msh) (a : MshA) (w : World) : Calls Tryz.prog 7 #[m.val a] w (RetW (.bool (lgB3 m)) w) := by
  have X := (Own.start w).alloc (m.cells a) 25
  have hr := X.r1
  have E : Hid (lgB3 m = (decide (60 < m.ss.length) || decide (80 < m.fs.length))) := hide rfl
  by_cases h1 : 60 < m.ss.length <;> by_cases h2 : 80 < m.fs.length
  all_goals
    go_enter Tryz.func7, Tryz.ntmps7
    go_wp2
    go_ret
    exact ⟨ret_bool (by rw [E.out]; simp [h1, h2]; try omega), X.1⟩
set_option maxRecDepth 100000 in
set_option maxHeartbeats 4000000 in
/-- the ways on which nothing is compared -/
theorem whole_no (m : Msh) (a : MshA) (inl : List Int) (A : Option Addr) (cp : Nat) (fr to' : Nat) (w : World) (hm : MshSl w m a) (hi : IntSl w A inl) (ht : TxtW w) (h : lgB3 m = true ∨ 100 < inl.length ∨ vM m = false ∨ arE m.fs inl 16 ≠ 0) :
    Calls Tryz.prog 5 #[m.val a, .slice A inl.length cp, .int .u8 fr, .int .u8 to'] w (RetV (.bool true) w) := by
  obtain ⟨ss, fs⟩ := m
  obtain ⟨A1, c1, A2, c2⟩ := a
  have AW := hide (fun W h => awake_any W h)
  have X := (Own.start w).alloc #[.slice A1 ss.length c1, .slice A2 fs.length c2] 25
  have HM := hide hm
  have HT := hide ht
  have HI := hide hi
  have hl1 : inl.length ≤ 9223372036854775807 := hi.1.1
  have LG := hide (fun W => lglarge3_any ⟨ss, fs⟩ ⟨A1, c1, A2, c2⟩ W)
  unfold RetW at LG
  have hr := X.r1
  show Calls _ _ #[.agg #[.slice A1 ss.length c1, .slice A2 fs.length c2], _, _, _] w _
  clear hm ht hi
  cases hlg : lgB3 ⟨ss, fs⟩ with
  | true =>
    rw [hlg] at LG
    clear hlg h
    go_enter Tryz.func5, Tryz.ntmps5
    go_wp2_with fail
    refine (AW.out _ (HT.out.below X.1)).mono ?_
    rintro e w1 ⟨rfl, hb⟩
    replace X := X.to hb
    clear hb hr
    have hr := X.r1
    go_wp2_with fail
    refine (LG.out _).mono ?_
    rintro e w1 ⟨rfl, hb⟩
    replace X := X.to hb
    clear hb hr
    have hr := X.r1
    clear hr
    go_wp2
    go_ret
    exact ⟨rfl, X.1⟩
  | false =>
    rw [hlg] at LG h
    clear hlg
    by_cases h100 : 100 < inl.length
    · have d1 : decide ((100 : Int) < (inl.length : Int)) = true := decide_eq_true (by omega)
      have d1' : decide (100 < inl.length) = true := decide_eq_true h100
      clear h100 h
      go_enter Tryz.func5, Tryz.ntmps5
      go_wp2_with fail
      refine (AW.out _ (HT.out.below X.1)).mono ?_
      rintro e w1 ⟨rfl, hb⟩
      replace X := X.to hb
      clear hb hr
      have hr := X.r1
      go_wp2_with fail
      refine (LG.out _).mono ?_
      rintro e w1 ⟨rfl, hb⟩
      replace X := X.to hb
      clear hb hr
      have hr := X.r1
      clear hr
      go_wp2
      go_ret
      exact ⟨rfl, X.1⟩
    have d1 : decide ((100 : Int) < (inl.length : Int)) = false := decide_eq_false (by omega)
    have d1' : decide (100 < inl.length) = false := decide_eq_false h100
    cases hv : vM ⟨ss, fs⟩ with
    | false =>
      have CB := hide (fun W h ht => areas_bad ⟨ss, fs⟩ ⟨A1, c1, A2, c2⟩ inl A cp 16 W h ht hv)
      unfold ArErr at CB
      clear hv h h100
      go_enter Tryz.func5, Tryz.ntmps5
      go_wp2_with fail
      refine (AW.out _ (HT.out.below X.1)).mono ?_
      rintro e w1 ⟨rfl, hb⟩
      replace X := X.to hb
      clear hb hr
      have hr := X.r1
      go_wp2_with fail
      refine (LG.out _).mono ?_
      rintro e w1 ⟨rfl, hb⟩
      replace X := X.to hb
      clear hb hr
      have hr := X.r1
      go_wp2_with fail
      refine (CB.out _ (HM.out.below X.1) (HT.out.below X.1).1).mono ?_
      rintro e w1 ⟨rfl, hb⟩
      replace X := X.to hb
      clear hb hr
      go_wp2
      go_ret
      exact ⟨rfl, X.1⟩
    | true =>
      rw [hv] at h
      have he : arE fs inl 16 ≠ 0 := by
        rcases h with h | h | h | h
        · cases h
        · exact absurd h h100
        · cases h
        · exact h
      have CE := hide (fun W h hi ht => areas_err ss fs A1 A2 c1 c2 inl A cp 16 W h hi ht hv he)
      unfold ArErr at CE
      have er0 : (arE fs inl 16 == 0) = false := by simpa using he
      have er1 : (arE fs inl 16 != 0) = true := by simpa using he
      generalize arE fs inl 16 = er at *
      clear hv h h100 he
      go_enter Tryz.func5, Tryz.ntmps5
      go_wp2_with fail
      refine (AW.out _ (HT.out.below X.1)).mono ?_
      rintro e w1 ⟨rfl, hb⟩
      replace X := X.to hb
      clear hb hr
      have hr := X.r1
      go_wp2_with fail
      refine (LG.out _).mono ?_
      rintro e w1 ⟨rfl, hb⟩
      replace X := X.to hb
      clear hb hr
      have hr := X.r1
      go_wp2_with fail
      refine (CE.out _ (HM.out.below X.1) (HI.out.below X.1) (HT.out.below X.1).1).mono ?_
      rintro e w1 ⟨rfl, hb⟩
      replace X := X.to hb
      clear hb hr
      go_wp2
      go_ret
      exact ⟨rfl, X.1⟩
end Go.Proofs.YtaaadejamjbcbaaGreatDoor
