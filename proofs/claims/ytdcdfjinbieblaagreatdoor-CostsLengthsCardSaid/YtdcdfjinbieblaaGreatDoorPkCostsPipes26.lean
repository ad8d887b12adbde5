/- Parts of one proof, joined: Magnitudes of two words, said of natural numbers. The reference's magnitudes of two words (sewershedref03): Size, Less, Plus, Minus, Mul, Shift: what each returns; nothing that was there is turned (printed by gen_rf3.py). The reference's long division (sewershedref03.Div): quotient and rest; nothing that was there is turned (printed by gen_rf3.py). -/
import Derived.Test.YtdcdfjinbieblaaGreatDoorPkCostsPipes1
import Derived.Test.YtdcdfjinbieblaaGreatDoorPkCostsPipes2
import Derived.Test.YtdcdfjinbieblaaGreatDoorPkCostsPipes4
import Derived.Test.YtdcdfjinbieblaaGreatDoorPkCostsPipes6
namespace Go.Proofs.YtdcdfjinbieblaaGreatDoor
open Go.RowKit

/-- a magnitude as a value: its high word and its low word -/
abbrev Uv (x : Nat) : Value := .agg #[.int .u64 ((x / 18446744073709551616 : Nat) : Int), .int .u64 ((x % 18446744073709551616 : Nat) : Int)]
abbrev U2 : Nat := 340282366920938463463374607431768211456
theorem words_lt {x : Nat} (h : x < 340282366920938463463374607431768211456) : x / 18446744073709551616 < 18446744073709551616 ∧ x % 18446744073709551616 < 18446744073709551616 ∧ x = x / 18446744073709551616 * 18446744073709551616 + x % 18446744073709551616 := by omega
theorem words_of {h l : Nat} (hl : l < 18446744073709551616) : (h * 18446744073709551616 + l) / 18446744073709551616 = h ∧ (h * 18446744073709551616 + l) % 18446744073709551616 = l := by omega
theorem mul_words {a b : Nat} (ha : a < 18446744073709551616) (hb : b < 18446744073709551616) :
    ∃ ah al bh bl p q r s mid oth H L : Nat, ah = a / 4294967296 ∧ al = a % 4294967296 ∧ bh = b / 4294967296 ∧ bl = b % 4294967296 ∧ s = al * bl ∧ q = ah * bl ∧ mid = q + s / 4294967296 ∧ r = al * bh ∧ oth = r + mid % 4294967296 ∧ p = ah * bh ∧
      H = p + mid / 4294967296 + oth / 4294967296 ∧ L = oth * 4294967296 % 18446744073709551616 + s % 4294967296 ∧ H * 18446744073709551616 + L = a * b ∧
      s < 18446744073709551616 ∧ q < 18446744073709551616 ∧ mid < 18446744073709551616 ∧ r < 18446744073709551616 ∧ oth < 18446744073709551616 ∧ p < 18446744073709551616 ∧ p + mid / 4294967296 < 18446744073709551616 ∧ H < 18446744073709551616 ∧ L < 18446744073709551616 := by
  have h1 : a = a / 4294967296 * 4294967296 + a % 4294967296 := by omega
  have h2 : b = b / 4294967296 * 4294967296 + b % 4294967296 := by omega
  have a1 : a / 4294967296 ≤ 4294967295 := by omega
  have a2 : a % 4294967296 ≤ 4294967295 := by omega
  have b1 : b / 4294967296 ≤ 4294967295 := by omega
  have b2 : b % 4294967296 ≤ 4294967295 := by omega
  have m1 := Nat.mul_le_mul a1 b1
  have m2 := Nat.mul_le_mul a1 b2
  have m3 := Nat.mul_le_mul a2 b1
  have m4 := Nat.mul_le_mul a2 b2
  have e : a * b = a / 4294967296 * (b / 4294967296) * 18446744073709551616 + (a / 4294967296 * (b % 4294967296) + a % 4294967296 * (b / 4294967296)) * 4294967296 + a % 4294967296 * (b % 4294967296) := by
    generalize a / 4294967296 = x at *
    generalize a % 4294967296 = y at *
    generalize b / 4294967296 = z at *
    generalize b % 4294967296 = t at *
    rw [h1, h2]; grind
  refine ⟨_, _, _, _, _, _, _, _, _, _, _, _, rfl, rfl, rfl, rfl, rfl, rfl, rfl, rfl, rfl, rfl, rfl, rfl, ?_⟩
  generalize a / 4294967296 * (b / 4294967296) = p at *
  generalize a / 4294967296 * (b % 4294967296) = q at *
  generalize a % 4294967296 * (b / 4294967296) = r at *
  generalize a % 4294967296 * (b % 4294967296) = s at *
  generalize a * b = z at *
  omega
/-- what the long division holds behind i rounds: of a, by b -/
structure DivRel (a b i : Nat) (x q r : Nat) : Prop where
  ex : x = a * 2 ^ i % 340282366920938463463374607431768211456
  eq : q = a * 2 ^ i / 340282366920938463463374607431768211456 / b
  er : r = a * 2 ^ i / 340282366920938463463374607431768211456 % b
theorem DivRel.start {a b : Nat} (ha : a < 340282366920938463463374607431768211456) (_hb : 0 < b) : DivRel a b 0 a 0 0 := by
  constructor <;> simp [Nat.div_eq_of_lt ha, Nat.mod_eq_of_lt ha]
theorem DivRel.fin {a b x q r : Nat} (h : DivRel a b 128 x q r) : q = a / b ∧ r = a % b := by
  have e : a * 2 ^ 128 / 340282366920938463463374607431768211456 = a := Nat.mul_div_cancel a (by omega)
  exact ⟨by rw [h.eq, e], by rw [h.er, e]⟩
theorem DivRel.bd {a b i x q r : Nat} (h : DivRel a b i x q r) (ha : a < 340282366920938463463374607431768211456) (hb : 0 < b) :
    x < 340282366920938463463374607431768211456 ∧ r < b ∧ q < 2 ^ i := by
  refine ⟨by rw [h.ex]; exact Nat.mod_lt _ (by omega), by rw [h.er]; exact Nat.mod_lt _ hb, ?_⟩
  rw [h.eq]
  have : a * 2 ^ i / 340282366920938463463374607431768211456 < 2 ^ i := by
    rw [Nat.div_lt_iff_lt_mul (by omega), Nat.mul_comm]
    exact Nat.mul_lt_mul_of_pos_left ha (Nat.two_pow_pos i)
  exact Nat.lt_of_le_of_lt (Nat.div_le_self _ _) this
/-- the next round: the bit that comes in, and whether b is taken away -/
theorem DivRel.next {a b i x q r : Nat} (h : DivRel a b i x q r) (hb : 0 < b) :
    DivRel a b (i + 1) (x * 2 % 340282366920938463463374607431768211456) (if b ≤ r * 2 + x / 170141183460469231731687303715884105728 then q * 2 + 1 else q * 2)
      (if b ≤ r * 2 + x / 170141183460469231731687303715884105728 then r * 2 + x / 170141183460469231731687303715884105728 - b else r * 2 + x / 170141183460469231731687303715884105728) := by
  obtain ⟨ex, eq, er⟩ := h
  have hx : a * 2 ^ (i + 1) = a * 2 ^ i * 2 := by rw [Nat.pow_succ, Nat.mul_assoc]
  generalize a * 2 ^ i = A at *
  have t : a * 2 ^ (i + 1) / 340282366920938463463374607431768211456 = A / 340282366920938463463374607431768211456 * 2 + x / 170141183460469231731687303715884105728 := by rw [hx]; omega
  have hr : r < b := by rw [er]; exact Nat.mod_lt _ hb
  have hq : A / 340282366920938463463374607431768211456 = b * q + r := by rw [eq, er]; exact (Nat.div_add_mod _ _).symm
  have hbit : x / 170141183460469231731687303715884105728 ≤ 1 := by omega
  generalize x / 170141183460469231731687303715884105728 = bit at *
  refine ⟨by rw [hx]; omega, ?_, ?_⟩
  · rw [t, hq]
    split
    · have e : (b * q + r) * 2 + bit = (r * 2 + bit - b) + b * (q * 2 + 1) := by
        have : b * (q * 2 + 1) = b * q * 2 + b := by grind
        omega
      rw [e, Nat.add_mul_div_left _ _ hb, Nat.div_eq_of_lt (by omega)]; omega
    · have e : (b * q + r) * 2 + bit = (r * 2 + bit) + b * (q * 2) := by
        have : b * (q * 2) = b * q * 2 := by grind
        omega
      rw [e, Nat.add_mul_div_left _ _ hb, Nat.div_eq_of_lt (by omega)]; omega
  · rw [t, hq]
    split
    · have e : (b * q + r) * 2 + bit = (r * 2 + bit - b) + b * (q * 2 + 1) := by
        have : b * (q * 2 + 1) = b * q * 2 + b := by grind
        omega
      rw [e, Nat.add_mul_mod_self_left, Nat.mod_eq_of_lt (by omega)]
    · have e : (b * q + r) * 2 + bit = (r * 2 + bit) + b * (q * 2) := by
        have : b * (q * 2) = b * q * 2 := by grind
        omega
      rw [e, Nat.add_mul_mod_self_left, Nat.mod_eq_of_lt (by omega)]
end Go.Proofs.YtdcdfjinbieblaaGreatDoor

namespace Go.Proofs.YtdcdfjinbieblaaGreatDoor
open Go.RowKit

abbrev Ud (h l : Nat) : Value := .agg #[.int .u64 (h : Int), .int .u64 (l : Int)]
/-- two words are a magnitude -/
def Wd (h l x : Nat) : Prop := h < 18446744073709551616 ∧ l < 18446744073709551616 ∧ h * 18446744073709551616 + l = x
set_option maxHeartbeats 400000 in
theorem r3size_any (n : Int) (m : Nat) (w : World) (h : n.natAbs = m) (hm : m ≤ 9223372036854775808) :
    Calls Tryz.prog 104 #[.int .i64 n] w fun e w' => e = .returned (.int .u64 (m : Int)) ∧ w = w' := by
  by_cases hn : n < 0
  · obtain ⟨k, hk⟩ : ∃ k : Nat, k = 18446744073709551616 - m := ⟨_, rfl⟩
    have e1 : IntKind.u64.wrap n = (k : Int) := by rw [IntKind.wrap_u64]; omega
    have e2 : IntKind.u64.wrap (0 - (k : Int)) = (m : Int) := by rw [IntKind.wrap_u64]; omega
    have e3 : IntKind.u64.wrap (-(k : Int)) = (m : Int) := by rw [IntKind.wrap_u64]; omega
    clear h hm hk
    go_enter Tryz.func104, Tryz.ntmps104
    go_wp2
    go_ret
    exact ⟨ret_int rfl, rfl⟩
  · have e1 : IntKind.u64.wrap n = (m : Int) := by rw [IntKind.wrap_u64]; omega
    clear h hm
    go_enter Tryz.func104, Tryz.ntmps104
    go_wp2
    go_ret
    exact ⟨ret_int rfl, rfl⟩
set_option maxHeartbeats 400000 in
theorem r3less_any (a b c d : Nat) (w : World) (hb : b < 18446744073709551616) (hd : d < 18446744073709551616) :
    Calls Tryz.prog 139 #[Ud a b, Ud c d] w fun e w' => e = .returned (.bool (decide (a * 18446744073709551616 + b < c * 18446744073709551616 + d))) ∧ Below w.heap.size w w' := by
  have X := ((Own.start w).alloc #[.int .u64 (a : Int), .int .u64 (b : Int)] 112).alloc #[.int .u64 (c : Int), .int .u64 (d : Int)] 112
  simp only [World.size_alloc] at X
  have hr := X.r2
  have t : (a : Int) < c ∨ (a = c ∧ (b : Int) < d) ∨ (a = c ∧ ¬ (b : Int) < d) ∨ (c < a) := by omega
  rcases t with t | ⟨rfl, t⟩ | ⟨rfl, t⟩ | t
  · have V := hide (show decide (a * 18446744073709551616 + b < c * 18446744073709551616 + d) = true from decide_eq_true (by omega))
    go_enter Tryz.func139, Tryz.ntmps139
    go_wp2
    go_ret
    exact ⟨ret_bool V.out.symm, by have HX := X.1; have hz := HX.size; go_grown⟩
  · have V := hide (show decide (a * 18446744073709551616 + b < a * 18446744073709551616 + d) = true from decide_eq_true (by omega))
    go_enter Tryz.func139, Tryz.ntmps139
    go_wp2
    go_ret
    exact ⟨ret_bool (by first | (rw [V.out]; done) | (simp; omega)), by have HX := X.1; have hz := HX.size; go_grown⟩
  · have V := hide (show decide (a * 18446744073709551616 + b < a * 18446744073709551616 + d) = false from decide_eq_false (by omega))
    go_enter Tryz.func139, Tryz.ntmps139
    go_wp2
    go_ret
    exact ⟨ret_bool (by first | (rw [V.out]; done) | (simp; omega)), by have HX := X.1; have hz := HX.size; go_grown⟩
  · have V := hide (show decide (a * 18446744073709551616 + b < c * 18446744073709551616 + d) = false from decide_eq_false (by omega))
    have q1 : ((a : Int) == (c : Int)) = false := by simp; omega
    have q2 : ¬ (a : Int) < (c : Int) := by omega
    go_enter Tryz.func139, Tryz.ntmps139
    go_wp2
    go_ret
    exact ⟨ret_bool (by first | (rw [V.out]; done) | (simp; omega)), by have HX := X.1; have hz := HX.size; go_grown⟩
set_option maxHeartbeats 400000 in
theorem r3plus_any (a b c d : Nat) (w : World) (hb : b < 18446744073709551616) (hd : d < 18446744073709551616) :
    Calls Tryz.prog 101 #[Ud a b, Ud c d] w fun e w' => (∃ h l : Nat, e = .returned (Ud h l) ∧ Wd h l ((a * 18446744073709551616 + b + (c * 18446744073709551616 + d)) % 340282366920938463463374607431768211456)) ∧ Below w.heap.size w w' := by
  have X := (((Own.start w).alloc #[.int .u64 (a : Int), .int .u64 (b : Int)] 112).alloc #[.int .u64 (c : Int), .int .u64 (d : Int)] 112).alloc #[.int .u64 0, .int .u64 0] 112
  simp only [World.size_alloc] at X
  have hr := X.r3
  obtain ⟨l, hl⟩ : ∃ l : Nat, l = (b + d) % 18446744073709551616 := ⟨_, rfl⟩
  obtain ⟨p, hp⟩ : ∃ p : Nat, p = (a + c) % 18446744073709551616 := ⟨_, rfl⟩
  obtain ⟨h, hh⟩ : ∃ h : Nat, h = (a + c + 1) % 18446744073709551616 := ⟨_, rfl⟩
  have e1 : IntKind.u64.wrap ((b : Int) + (d : Int)) = (l : Int) := e_add hl
  have e2 : IntKind.u64.wrap ((a : Int) + (c : Int)) = (p : Int) := e_add hp
  have e3 : IntKind.u64.wrap ((p : Int) + 1) = (h : Int) := e_add (y := 1) (by omega)
  by_cases t : (l : Int) < (b : Int)
  · have V := hide (show Wd h l ((a * 18446744073709551616 + b + (c * 18446744073709551616 + d)) % 340282366920938463463374607431768211456) from ⟨by omega, by omega, by omega⟩)
    clear hl hp hh hb hd
    go_enter Tryz.func101, Tryz.ntmps101
    go_wp2
    exact bodyPost_ret (v := Ud h l) (by simp [results, Tryz.results101, go_sem]) rfl ⟨⟨h, l, rfl, V.out⟩, by have HX := X.1; have hz := HX.size; go_grown⟩
  · have V := hide (show Wd p l ((a * 18446744073709551616 + b + (c * 18446744073709551616 + d)) % 340282366920938463463374607431768211456) from ⟨by omega, by omega, by omega⟩)
    clear hl hp hh hb hd e3
    go_enter Tryz.func101, Tryz.ntmps101
    go_wp2
    exact bodyPost_ret (v := Ud p l) (by simp [results, Tryz.results101, go_sem]) rfl ⟨⟨p, l, rfl, V.out⟩, by have HX := X.1; have hz := HX.size; go_grown⟩
set_option maxHeartbeats 400000 in
theorem r3minus_any (a b c d : Nat) (w : World) (ha : a < 18446744073709551616) (hb : b < 18446744073709551616) (hc : c < 18446744073709551616) (hd : d < 18446744073709551616) :
    Calls Tryz.prog 140 #[Ud a b, Ud c d] w fun e w' => (∃ h l : Nat, e = .returned (Ud h l) ∧ Wd h l ((a * 18446744073709551616 + b + 340282366920938463463374607431768211456 - (c * 18446744073709551616 + d)) % 340282366920938463463374607431768211456)) ∧ Below w.heap.size w w' := by
  have X := (((Own.start w).alloc #[.int .u64 (a : Int), .int .u64 (b : Int)] 112).alloc #[.int .u64 (c : Int), .int .u64 (d : Int)] 112).alloc #[.int .u64 0, .int .u64 0] 112
  simp only [World.size_alloc] at X
  have hr := X.r3
  obtain ⟨l, hl⟩ : ∃ l : Nat, l = (b + 18446744073709551616 - d) % 18446744073709551616 := ⟨_, rfl⟩
  obtain ⟨p, hp⟩ : ∃ p : Nat, p = (a + 18446744073709551616 - c) % 18446744073709551616 := ⟨_, rfl⟩
  obtain ⟨h, hh⟩ : ∃ h : Nat, h = (a + 18446744073709551616 + 18446744073709551616 - c - 1) % 18446744073709551616 := ⟨_, rfl⟩
  have e1 : IntKind.u64.wrap ((b : Int) - (d : Int)) = (l : Int) := by rw [IntKind.wrap_u64]; omega
  have e2 : IntKind.u64.wrap ((a : Int) - (c : Int)) = (p : Int) := by rw [IntKind.wrap_u64]; omega
  have e3 : IntKind.u64.wrap ((p : Int) - 1) = (h : Int) := by rw [IntKind.wrap_u64]; omega
  by_cases t : (b : Int) < (d : Int)
  · have V := hide (show Wd h l ((a * 18446744073709551616 + b + 340282366920938463463374607431768211456 - (c * 18446744073709551616 + d)) % 340282366920938463463374607431768211456) from ⟨by omega, by omega, by omega⟩)
    clear hl hp hh ha hb hc hd
    go_enter Tryz.func140, Tryz.ntmps140
    go_wp2
    exact bodyPost_ret (v := Ud h l) (by simp [results, Tryz.results140, go_sem]) rfl ⟨⟨h, l, rfl, V.out⟩, by have HX := X.1; have hz := HX.size; go_grown⟩
  · have V := hide (show Wd p l ((a * 18446744073709551616 + b + 340282366920938463463374607431768211456 - (c * 18446744073709551616 + d)) % 340282366920938463463374607431768211456) from ⟨by omega, by omega, by omega⟩)
    clear hl hp hh ha hb hc hd e3
    go_enter Tryz.func140, Tryz.ntmps140
    go_wp2
    exact bodyPost_ret (v := Ud p l) (by simp [results, Tryz.results140, go_sem]) rfl ⟨⟨p, l, rfl, V.out⟩, by have HX := X.1; have hz := HX.size; go_grown⟩
set_option maxHeartbeats 1000000 in
theorem r3mul_core (a b ah al bh bl p q r s mid oth H L s1 s0 m1 m0 o1 o2 p1 : Nat) (w : World) (E1 : (a : Int) / 4294967296 = (ah : Int)) (E2 : bits .and .u64 (a : Int) 4294967295 = (al : Int)) (E3 : (b : Int) / 4294967296 = (bh : Int)) (E4 : bits .and .u64 (b : Int) 4294967295 = (bl : Int))
    (E5 : IntKind.u64.wrap ((al : Int) * (bl : Int)) = (s : Int)) (E6 : IntKind.u64.wrap ((ah : Int) * (bl : Int)) = (q : Int)) (E7 : (s : Int) / 4294967296 = (s1 : Int)) (E8 : IntKind.u64.wrap ((q : Int) + (s1 : Int)) = (mid : Int))
    (E9 : IntKind.u64.wrap ((al : Int) * (bh : Int)) = (r : Int)) (E10 : bits .and .u64 (mid : Int) 4294967295 = (m0 : Int)) (E11 : IntKind.u64.wrap ((r : Int) + (m0 : Int)) = (oth : Int))
    (E12 : IntKind.u64.wrap ((ah : Int) * (bh : Int)) = (p : Int)) (E13 : (mid : Int) / 4294967296 = (m1 : Int)) (E14 : IntKind.u64.wrap ((p : Int) + (m1 : Int)) = (p1 : Int)) (E15 : (oth : Int) / 4294967296 = (o1 : Int)) (E16 : IntKind.u64.wrap ((p1 : Int) + (o1 : Int)) = (H : Int))
    (E17 : IntKind.u64.wrap ((oth : Int) * 4294967296) = (o2 : Int)) (E18 : bits .and .u64 (s : Int) 4294967295 = (s0 : Int)) (E19 : IntKind.u64.wrap ((o2 : Int) + (s0 : Int)) = (L : Int)) :
    Calls Tryz.prog 103 #[.int .u64 (a : Int), .int .u64 (b : Int)] w fun e w' => e = .returned (Ud H L) ∧ Below w.heap.size w w' := by
  have X := (Own.start w).alloc #[.int .u64 0, .int .u64 0] 112
  have hr := X.r1
  go_enter Tryz.func103, Tryz.ntmps103
  go_wp2
  exact bodyPost_ret (v := Ud H L) (by simp [results, Tryz.results103, go_sem]) rfl ⟨rfl, by have HX := X.1; have hz := HX.size; go_grown⟩
theorem e_mulw {x y z : Nat} (h : z = x * y) (hz : z < 18446744073709551616) : IntKind.u64.wrap ((x : Int) * (y : Int)) = (z : Int) := by rw [← Int.natCast_mul, ← h]; exact u64_nat hz
theorem e_addw {x y z : Nat} (h : z = x + y) (hz : z < 18446744073709551616) : IntKind.u64.wrap ((x : Int) + (y : Int)) = (z : Int) := by rw [← Int.natCast_add, ← h]; exact u64_nat hz
theorem r3mul_any (a b : Nat) (w : World) (ha : a < 18446744073709551616) (hb : b < 18446744073709551616) :
    Calls Tryz.prog 103 #[.int .u64 (a : Int), .int .u64 (b : Int)] w fun e w' => (∃ h l : Nat, e = .returned (Ud h l) ∧ Wd h l (a * b)) ∧ Below w.heap.size w w' := by
  obtain ⟨ah, al, bh, bl, p, q, r, s, mid, oth, H, L, k1, k2, k3, k4, k5, k6, k7, k8, k9, k10, k11, k12, k13, b1, b2, b3, b4, b5, b6, b7, b8, b9⟩ := mul_words ha hb
  refine (r3mul_core a b ah al bh bl p q r s mid oth H L (s / 4294967296) (s % 4294967296) (mid / 4294967296) (mid % 4294967296) (oth / 4294967296) (oth * 4294967296 % 18446744073709551616) (p + mid / 4294967296) w
    (e_div (a := 4294967296) k1) (by rw [k2]; exact u64_and32 ha) (e_div (a := 4294967296) k3) (by rw [k4]; exact u64_and32 hb)
    (e_mulw k5 b1) (e_mulw k6 b2) (e_div (a := 4294967296) rfl) (e_addw k7 b3)
    (e_mulw k8 b4) (u64_and32 b3) (e_addw k9 b5)
    (e_mulw k10 b6) (e_div (a := 4294967296) rfl) (e_addw rfl b7) (e_div (a := 4294967296) rfl) (e_addw k11 b8)
    (e_mul32 rfl) (u64_and32 b1) (e_addw k12 b9)).mono ?_
  rintro e w' ⟨rfl, hb⟩
  exact ⟨⟨H, L, rfl, b8, b9, k13⟩, hb⟩
set_option maxHeartbeats 400000 in
theorem r3shift_any (a b c : Nat) (w : World) (hb : b < 18446744073709551616) (hc : c ≤ 1) :
    Calls Tryz.prog 138 #[Ud a b, .int .u64 (c : Int)] w fun e w' => (∃ h l : Nat, e = .returned (Ud h l) ∧ Wd h l ((a * 18446744073709551616 + b) * 2 % 340282366920938463463374607431768211456 + c)) ∧ Below w.heap.size w w' := by
  have X := ((Own.start w).alloc #[.int .u64 (a : Int), .int .u64 (b : Int)] 112).alloc #[.int .u64 0, .int .u64 0] 112
  simp only [World.size_alloc] at X
  have hr := X.r2
  obtain ⟨p, hp⟩ : ∃ p : Nat, p = a * 2 % 18446744073709551616 := ⟨_, rfl⟩
  obtain ⟨k, hk⟩ : ∃ k : Nat, k = b / 9223372036854775808 := ⟨_, rfl⟩
  obtain ⟨h, hh⟩ : ∃ h : Nat, h = p + k := ⟨_, rfl⟩
  obtain ⟨q, hq⟩ : ∃ q : Nat, q = b * 2 % 18446744073709551616 := ⟨_, rfl⟩
  obtain ⟨l, hl⟩ : ∃ l : Nat, l = q + c := ⟨_, rfl⟩
  have e1 : IntKind.u64.wrap ((a : Int) * 2) = (p : Int) := e_mul (y := 2) hp
  have e2 : (b : Int) / 9223372036854775808 = (k : Int) := e_div (a := 9223372036854775808) hk
  have e3 : IntKind.u64.wrap ((p : Int) + (k : Int)) = (h : Int) := e_addw hh (by omega)
  have e4 : IntKind.u64.wrap ((b : Int) * 2) = (q : Int) := e_mul (y := 2) hq
  have e5 : IntKind.u64.wrap ((q : Int) + (c : Int)) = (l : Int) := e_addw hl (by omega)
  have V := hide (show Wd h l ((a * 18446744073709551616 + b) * 2 % 340282366920938463463374607431768211456 + c) from ⟨by omega, by omega, by omega⟩)
  clear hp hk hh hq hl hb hc
  go_enter Tryz.func138, Tryz.ntmps138
  go_wp2
  exact bodyPost_ret (v := Ud h l) (by simp [results, Tryz.results138, go_sem]) rfl ⟨⟨h, l, rfl, V.out⟩, by have HX := X.1; have hz := HX.size; go_grown⟩
end Go.Proofs.YtdcdfjinbieblaaGreatDoor

namespace Go.Proofs.YtdcdfjinbieblaaGreatDoor
open Go.RowKit

theorem Own.rot3 {w W : World} {x y z : Nat × TypeId × Array Value} {L} (h : Own w W (x :: y :: z :: L)) : Own w W (z :: x :: y :: L) :=
  ⟨h.1, fun u hu => h.2 u (by simp only [List.mem_cons] at hu ⊢; rcases hu with h | h | h | h <;> simp [h])⟩
/-- what the division holds ahead of round i -/
structure DivSt (a b i : Nat) (xh xl qh ql rh rl : Nat) : Prop where
  x : xh < 18446744073709551616 ∧ xl < 18446744073709551616
  q : qh < 18446744073709551616 ∧ ql < 18446744073709551616
  r : rh < 18446744073709551616 ∧ rl < 18446744073709551616
  rel : DivRel a b i (xh * 18446744073709551616 + xl) (qh * 18446744073709551616 + ql) (rh * 18446744073709551616 + rl)
theorem DivSt.low {a b i xh xl qh ql rh rl xh' xl' rh' rl' qh' ql' bit over : Nat} (h : DivSt a b i xh xl qh ql rh rl) (ha : a < 340282366920938463463374607431768211456) (hb : 0 < b) (hb' : b < 340282366920938463463374607431768211456) (hi : i < 128) (hbit : bit = xh / 9223372036854775808) (hover : over = rh / 9223372036854775808)
    (h1 : Wd xh' xl' ((xh * 18446744073709551616 + xl) * 2 % 340282366920938463463374607431768211456)) (h2 : Wd rh' rl' ((rh * 18446744073709551616 + rl) * 2 % 340282366920938463463374607431768211456 + bit)) (h3 : Wd qh' ql' ((qh * 18446744073709551616 + ql) * 2 % 340282366920938463463374607431768211456)) (ho : over = 0) (hl : rh' * 18446744073709551616 + rl' < b) :
    DivSt a b (i + 1) xh' xl' qh' ql' rh' rl' := by
  have n := h.rel.next hb
  have bd := h.rel.bd ha hb
  have p : 2 ^ i ≤ 2 ^ 127 := Nat.pow_le_pow_right (by omega) (by omega)
  obtain ⟨_, ⟨_, _⟩, ⟨_, _⟩, _⟩ := h
  obtain ⟨x1, x2, x3⟩ := h1
  obtain ⟨r1, r2, r3⟩ := h2
  obtain ⟨q1, q2, q3⟩ := h3
  have t : (xh * 18446744073709551616 + xl) / 170141183460469231731687303715884105728 = bit := by omega
  rw [t] at n
  rw [if_neg (by omega), if_neg (by omega)] at n
  refine ⟨⟨x1, x2⟩, ⟨q1, q2⟩, ⟨r1, r2⟩, ?_⟩
  rw [x3, q3, r3]
  rw [Nat.mod_eq_of_lt (by omega : (qh * 18446744073709551616 + ql) * 2 < 340282366920938463463374607431768211456), Nat.mod_eq_of_lt (by omega : (rh * 18446744073709551616 + rl) * 2 < 340282366920938463463374607431768211456)]
  exact n
theorem div_sub {R R' S b bit : Nat} (h1 : R' = R * 2 % 340282366920938463463374607431768211456 + bit) (hb : bit ≤ 1) (h2 : R < b) (hb' : b < 340282366920938463463374607431768211456) (hl : 170141183460469231731687303715884105728 ≤ R ∨ b ≤ R') (h3 : S = (R' + 340282366920938463463374607431768211456 - b) % 340282366920938463463374607431768211456) :
    b ≤ R * 2 + bit ∧ S = R * 2 + bit - b := by
  by_cases h : 170141183460469231731687303715884105728 ≤ R
  · have e : R * 2 % 340282366920938463463374607431768211456 = R * 2 - 340282366920938463463374607431768211456 := by omega
    rw [e] at h1
    have e2 : R' + 340282366920938463463374607431768211456 - b < 340282366920938463463374607431768211456 := by omega
    rw [Nat.mod_eq_of_lt e2] at h3
    omega
  · have e : R * 2 % 340282366920938463463374607431768211456 = R * 2 := by omega
    rw [e] at h1
    have e2 : R' + 340282366920938463463374607431768211456 - b = (R' - b) + 340282366920938463463374607431768211456 := by omega
    rw [e2, Nat.add_mod_right, Nat.mod_eq_of_lt (by omega)] at h3
    omega
theorem DivSt.high {a b i xh xl qh ql rh rl xh' xl' rh' rl' qh' ql' bit over rh2 rl2 ql2 : Nat} (h : DivSt a b i xh xl qh ql rh rl) (ha : a < 340282366920938463463374607431768211456) (hb : 0 < b) (hb' : b < 340282366920938463463374607431768211456) (hi : i < 128) (hbit : bit = xh / 9223372036854775808) (hover : over = rh / 9223372036854775808)
    (h1 : Wd xh' xl' ((xh * 18446744073709551616 + xl) * 2 % 340282366920938463463374607431768211456)) (h2 : Wd rh' rl' ((rh * 18446744073709551616 + rl) * 2 % 340282366920938463463374607431768211456 + bit)) (h3 : Wd qh' ql' ((qh * 18446744073709551616 + ql) * 2 % 340282366920938463463374607431768211456)) (hl : 0 < over ∨ b ≤ rh' * 18446744073709551616 + rl')
    (h4 : Wd rh2 rl2 ((rh' * 18446744073709551616 + rl' + 340282366920938463463374607431768211456 - b) % 340282366920938463463374607431768211456)) (h5 : ql2 = ql' + 1) :
    DivSt a b (i + 1) xh' xl' qh' ql2 rh2 rl2 ∧ ql' + 1 < 18446744073709551616 := by
  have n := h.rel.next hb
  have bd := h.rel.bd ha hb
  have p : 2 ^ i ≤ 2 ^ 127 := Nat.pow_le_pow_right (by omega) (by omega)
  obtain ⟨_, ⟨_, _⟩, ⟨_, _⟩, _⟩ := h
  obtain ⟨x1, x2, x3⟩ := h1
  obtain ⟨r1, r2, r3⟩ := h2
  obtain ⟨q1, q2, q3⟩ := h3
  obtain ⟨s1, s2, s3⟩ := h4
  have t : (xh * 18446744073709551616 + xl) / 170141183460469231731687303715884105728 = bit := by omega
  rw [t] at n
  have hB : bit ≤ 1 := by clear n h5 hl hover; omega
  have hov : 170141183460469231731687303715884105728 ≤ rh * 18446744073709551616 + rl ∨ b ≤ rh' * 18446744073709551616 + rl' := by
    rcases hl with hl | hl
    · clear n h5; omega
    · exact .inr hl
  obtain ⟨f1, f2⟩ := div_sub r3 hB bd.2.1 hb' hov s3
  rw [if_pos f1, if_pos f1] at n
  have hq2 : (qh * 18446744073709551616 + ql) * 2 < 340282366920938463463374607431768211456 := by have := bd.2.2; clear n h5 hl hbit hover; omega
  rw [Nat.mod_eq_of_lt hq2] at q3
  clear p
  generalize 2 ^ i = pw at *
  have hq : ql' + 1 < 18446744073709551616 := by clear n s3 r3 x3 hl hbit hover bd; omega
  refine ⟨⟨⟨x1, x2⟩, ⟨q1, by rw [h5]; exact hq⟩, ⟨s1, s2⟩, ?_⟩, hq⟩
  have e2 : qh' * 18446744073709551616 + ql2 = (qh * 18446744073709551616 + ql) * 2 + 1 := by rw [h5, ← q3, Nat.add_assoc]
  rw [x3, e2, f2]
  exact n
theorem wd_lt {a b : Nat} (ha : a < 18446744073709551616) (hb : b < 18446744073709551616) : a * 18446744073709551616 + b < 340282366920938463463374607431768211456 := by omega
abbrev Uc (h l : Nat) : Array Value := #[.int .u64 (h : Int), .int .u64 (l : Int)]
theorem Own.setU {w W : World} {b : Nat} {t : TypeId} {h l h' l' : Nat} {L : List (Nat × TypeId × Array Value)} (X : Own w W ((b, t, Uc h l) :: L)) (hb : w.heap.size ≤ b) (hn : ∀ x ∈ L, x.1 ≠ b) :
    Own w ((W.setCell ⟨b, 0, none⟩ (.int .u64 (h' : Int))).setCell ⟨b, 1, none⟩ (.int .u64 (l' : Int))) ((b, t, Uc h' l') :: L) :=
  (X.set0 hb hn 0 (.int .u64 (h' : Int))).set0 hb hn 1 (.int .u64 (l' : Int))
set_option maxRecDepth 100000 in
set_option maxHeartbeats 4000000 in
theorem r3div_any (a b c d : Nat) (w : World) (ha : a < 18446744073709551616) (hb : b < 18446744073709551616) (hc : c < 18446744073709551616) (hd : d < 18446744073709551616) (h0 : 0 < c * 18446744073709551616 + d) :
    Calls Tryz.prog 100 #[Ud a b, Ud c d] w fun e w' => (∃ qh ql rh rl : Nat, e = .returned (.tuple #[Ud qh ql, Ud rh rl]) ∧ Wd qh ql ((a * 18446744073709551616 + b) / (c * 18446744073709551616 + d)) ∧ Wd rh rl ((a * 18446744073709551616 + b) % (c * 18446744073709551616 + d))) ∧ Below w.heap.size w w' := by
  have X0 := (((((((Own.start w).alloc (Uc a b) 112).alloc (Uc c d) 112).alloc (Uc 0 0) 112).alloc (Uc 0 0) 112).alloc (Uc 0 0) 112).alloc (Uc 0 0) 112)
  simp only [World.size_alloc] at X0
  have X : Own w _ [(w.heap.size + 1 + 1 + 1 + 1, 112, Uc 0 0), (w.heap.size + 1 + 1 + 1 + 1 + 1, 112, Uc 0 0), (w.heap.size, 112, Uc a b), (w.heap.size + 1, 112, Uc c d), (w.heap.size + 1 + 1, 112, Uc 0 0), (w.heap.size + 1 + 1 + 1, 112, Uc 0 0)] :=
    ⟨X0.1, fun u hu => X0.2 u (by simp only [List.mem_cons, List.not_mem_nil, or_false] at hu ⊢; rcases hu with h | h | h | h | h | h <;> simp [h])⟩
  clear X0
  have S0 := hide (show DivSt (a * 18446744073709551616 + b) (c * 18446744073709551616 + d) 0 a b 0 0 0 0 from ⟨⟨ha, hb⟩, by omega, by omega, DivRel.start (by omega) h0⟩)
  have HB := hide (And.intro (wd_lt ha hb) (And.intro (wd_lt hc hd) h0))
  have LESS := hide (fun x y W hy => r3less_any x y c d W hy hd)
  have MINUS := hide (fun x y W hx hy => r3minus_any x y c d W hx hy hc hd)
  clear ha hb hc hd h0
  have X' := hide X
  clear X
  go_enter Tryz.func100, Tryz.ntmps100
  go_wp2
  go_loopw [8] (fun v8 wr => ∃ i xh xl qh ql rh rl : Nat, i ≤ 128 ∧ v8 = .int .i64 (i : Int) ∧ Own w wr [(w.heap.size + 1 + 1 + 1 + 1, 112, Uc qh ql), (w.heap.size + 1 + 1 + 1 + 1 + 1, 112, Uc rh rl), (w.heap.size, 112, Uc xh xl), (w.heap.size + 1, 112, Uc c d), (w.heap.size + 1 + 1, 112, Uc 0 0), (w.heap.size + 1 + 1 + 1, 112, Uc 0 0)] ∧
      Hid (DivSt (a * 18446744073709551616 + b) (c * 18446744073709551616 + d) i xh xl qh ql rh rl)) (fun v8 _ => 128 - (intOf v8).toNat)
  case atStart => exact ⟨0, a, b, 0, 0, 0, 0, by omega, rfl, X'.out, S0⟩
  case round =>
    obtain ⟨i, xh, xl, qh, ql, rh, rl, hi, rfl, Y, hst⟩ := hrel
    by_cases hlt : i < 128
    · have hx := hst.out.x
      have hr := hst.out.r
      have hq := hst.out.q
      obtain ⟨bit, hbit⟩ : ∃ bit : Nat, bit = xh / 9223372036854775808 := ⟨_, rfl⟩
      obtain ⟨ov, hov⟩ : ∃ ov : Nat, ov = rh / 9223372036854775808 := ⟨_, rfl⟩
      have e1 : (xh : Int) / 9223372036854775808 = (bit : Int) := e_div (a := 9223372036854775808) hbit
      have e2 : (rh : Int) / 9223372036854775808 = (ov : Int) := e_div (a := 9223372036854775808) hov
      have S1 := hide (fun W => r3shift_any xh xl 0 W hx.2 (by omega))
      have S2 := hide (fun W => r3shift_any rh rl bit W hr.2 (by omega))
      have S3 := hide (fun W => r3shift_any qh ql 0 W hq.2 (by omega))
      have HBO := hide (And.intro hbit hov)
      clear hx hr hq hbit hov
      have hh := Y.r6
      go_wp2_with fail
      refine (S1.out _).mono ?_
      rintro e w1 ⟨⟨xh', xl', rfl, hw1⟩, hb⟩
      have Y1 := (Y.to hb).rot3
      have Y2 := Y1.setU (h' := xh') (l' := xl') (by omega) (by simp <;> omega)
      rw [Nat.add_zero] at hw1
      have hw1 := hide hw1
      clear hb hh
      have hh := Y1.r6
      go_wp2_with fail
      refine (S2.out _).mono ?_
      rintro e w2 ⟨⟨rh', rl', rfl, hw2⟩, hb⟩
      have Y3 := (Y2.to hb).rot3
      have Y4 := Y3.setU (h' := rh') (l' := rl') (by omega) (by simp <;> omega)
      have hw2 := hide hw2
      clear hb hh Y1 Y2
      have hh := Y3.r6
      go_wp2_with fail
      refine (S3.out _).mono ?_
      rintro e w3 ⟨⟨qh', ql', rfl, hw3⟩, hb⟩
      have Y5 := (Y4.to hb).rot3
      have Y6 := Y5.setU (h' := qh') (l' := ql') (by omega) (by simp <;> omega)
      rw [Nat.add_zero] at hw3
      have hw3 := hide hw3
      clear hb hh Y3 Y4
      have hh := Y5.r6
      have ql3 := hw3.out.2.1
      by_cases ho : 0 < ov
      · as_aux_lemma =>
        have o1 : (0 : Int) < (ov : Int) := by omega
        have HO := hide ho
        clear ho
        go_wp2_with fail
        refine (MINUS.out _ _ _ hw2.out.1 hw2.out.2.1).mono ?_
        rintro e w4 ⟨⟨rh2, rl2, rfl, hw4⟩, hb⟩
        obtain ⟨S', hlt2⟩ := DivSt.high hst.out HB.out.1 HB.out.2.2 HB.out.2.1 hlt HBO.out.1 HBO.out.2 hw1.out hw2.out hw3.out (.inl HO.out) hw4 rfl
        have e3 : IntKind.u64.wrap ((ql' : Int) + 1) = ((ql' + 1 : Nat) : Int) := e_addw (y := 1) rfl hlt2
        obtain ⟨ql4, hql4⟩ : ∃ ql4 : Nat, ql4 = ql' + 1 := ⟨_, rfl⟩
        rw [← hql4] at e3 S'
        have S'' := hide S'
        have Y7 := (Y6.to hb).swap
        have Y8 := Y7.setU (h' := rh2) (l' := rl2) (by omega) (by simp <;> omega)
        have Y9 := Y8.swap.set0 (by omega) (by simp <;> omega) 1 (.int .u64 (ql4 : Int))
        clear hb hh Y5 Y6 hql4 hlt2 S' hw4
        have hh := Y7.r6
        go_wp2
        go_roundw
        case rel => exact ⟨i + 1, xh', xl', qh', ql4, rh2, rl2, by omega, by go_num, Y9, S''⟩
        case measure => simp [intOf]; omega
      · have o1 : ¬ (0 : Int) < (ov : Int) := by omega
        have o2 : ov = 0 := by omega
        have HO := hide o2
        clear ho o2
        by_cases hl : rh' * 18446744073709551616 + rl' < c * 18446744073709551616 + d
        · as_aux_lemma =>
          have L1 := hide (fun W => LESS.out rh' rl' W hw2.out.2.1)
          rw [decide_eq_true hl] at L1
          have S'' := hide (DivSt.low hst.out HB.out.1 HB.out.2.2 HB.out.2.1 hlt HBO.out.1 HBO.out.2 hw1.out hw2.out hw3.out HO.out hl)
          clear hl
          go_wp2_with fail
          refine (L1.out _).mono ?_
          rintro e w4 ⟨rfl, hb⟩
          have Y7 := Y6.to hb
          clear hb hh Y5 Y6
          have hh := Y7.r6
          go_wp2
          go_roundw
          case rel => exact ⟨i + 1, xh', xl', qh', ql', rh', rl', by omega, by go_num, Y7, S''⟩
          case measure => simp [intOf]; omega
        · as_aux_lemma =>
          have L1 := hide (fun W => LESS.out rh' rl' W hw2.out.2.1)
          rw [decide_eq_false hl] at L1
          have HL := hide hl
          clear hl
          go_wp2_with fail
          refine (L1.out _).mono ?_
          rintro e w4 ⟨rfl, hb⟩
          have Y6' := Y6.to hb
          clear hb hh Y5 Y6
          have hh := Y6'.r6
          go_wp2_with fail
          refine (MINUS.out _ _ _ hw2.out.1 hw2.out.2.1).mono ?_
          rintro e w5 ⟨⟨rh2, rl2, rfl, hw4⟩, hb⟩
          obtain ⟨S', hlt2⟩ := DivSt.high hst.out HB.out.1 HB.out.2.2 HB.out.2.1 hlt HBO.out.1 HBO.out.2 hw1.out hw2.out hw3.out (.inr (Nat.not_lt.1 HL.out)) hw4 rfl
          have e3 : IntKind.u64.wrap ((ql' : Int) + 1) = ((ql' + 1 : Nat) : Int) := e_addw (y := 1) rfl hlt2
          obtain ⟨ql4, hql4⟩ : ∃ ql4 : Nat, ql4 = ql' + 1 := ⟨_, rfl⟩
          rw [← hql4] at e3 S'
          have S'' := hide S'
          have Y7 := (Y6'.to hb).swap
          have Y8 := Y7.setU (h' := rh2) (l' := rl2) (by omega) (by simp <;> omega)
          have Y9 := Y8.swap.set0 (by omega) (by simp <;> omega) 1 (.int .u64 (ql4 : Int))
          clear hb hh Y6' hql4 hlt2 S' hw4
          have hh := Y7.r6
          go_wp2
          go_roundw
          case rel => exact ⟨i + 1, xh', xl', qh', ql4, rh2, rl2, by omega, by go_num, Y9, S''⟩
          case measure => simp [intOf]; omega
    · have e : i = 128 := by omega
      subst e
      have F := hide (And.intro hst.out.rel.fin (And.intro hst.out.q hst.out.r))
      have hh := Y.r6
      clear hst hlt
      go_wp2
      go_region
      go_wp2
      exact bodyPost_ret (v := .tuple #[Ud qh ql, Ud rh rl]) (by simp [results, Tryz.results100, hh, go_sem]) rfl ⟨⟨qh, ql, rh, rl, rfl, ⟨F.out.2.1.1, F.out.2.1.2, F.out.1.1⟩, ⟨F.out.2.2.1, F.out.2.2.2, F.out.1.2⟩⟩, by have HX := Y.1; have hz := HX.size; go_grown⟩
end Go.Proofs.YtdcdfjinbieblaaGreatDoor
