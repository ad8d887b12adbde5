/- The reference's magnitudes of two words (sewershedref03): Size, Less, Plus, Minus, Mul, Shift: what each returns; nothing that was there is turned (printed by gen_rf3.py). -/
import Derived.Test.YtgflgnbbkhikcaaDoorRf3P
import Derived.Test.YtgflgnbbkhikcaaDoorOwn2
import Derived.Test.YtgflgnbbkhikcaaDoorDiv64A
namespace Go.Proofs.YtgflgnbbkhikcaaDoor
open Go.RowKit

abbrev Ud (h l : Nat) : Value := .agg #[.int .u64 (h : Int), .int .u64 (l : Int)]
/-- two words are a magnitude -/
def Wd (h l x : Nat) : Prop := h < 18446744073709551616 ∧ l < 18446744073709551616 ∧ h * 18446744073709551616 + l = x
set_option maxHeartbeats 400000 in
theorem r3size_any (n : Int) (m : Nat) (w : World) (h : n.natAbs = m) (hm : m ≤ 9223372036854775808) :
    Calls Tryd.prog 62 #[.int .i64 n] w fun e w' => e = .returned (.int .u64 (m : Int)) ∧ w = w' := by
  by_cases hn : n < 0
  · obtain ⟨k, hk⟩ : ∃ k : Nat, k = 18446744073709551616 - m := ⟨_, rfl⟩
    have e1 : IntKind.u64.wrap n = (k : Int) := by rw [IntKind.wrap_u64]; omega
    have e2 : IntKind.u64.wrap (0 - (k : Int)) = (m : Int) := by rw [IntKind.wrap_u64]; omega
    have e3 : IntKind.u64.wrap (-(k : Int)) = (m : Int) := by rw [IntKind.wrap_u64]; omega
    clear h hm hk
    go_enter Tryd.func62, Tryd.ntmps62
    go_wp2
    go_ret
    exact ⟨ret_int rfl, rfl⟩
  · have e1 : IntKind.u64.wrap n = (m : Int) := by rw [IntKind.wrap_u64]; omega
    clear h hm
    go_enter Tryd.func62, Tryd.ntmps62
    go_wp2
    go_ret
    exact ⟨ret_int rfl, rfl⟩
set_option maxHeartbeats 400000 in
theorem r3less_any (a b c d : Nat) (w : World) (hb : b < 18446744073709551616) (hd : d < 18446744073709551616) :
    Calls Tryd.prog 77 #[Ud a b, Ud c d] w fun e w' => e = .returned (.bool (decide (a * 18446744073709551616 + b < c * 18446744073709551616 + d))) ∧ Below w.heap.size w w' := by
  have X := ((Own.start w).alloc #[.int .u64 (a : Int), .int .u64 (b : Int)] 57).alloc #[.int .u64 (c : Int), .int .u64 (d : Int)] 57
  simp only [World.size_alloc] at X
  have hr := X.r2
  have t : (a : Int) < c ∨ (a = c ∧ (b : Int) < d) ∨ (a = c ∧ ¬ (b : Int) < d) ∨ (c < a) := by omega
  rcases t with t | ⟨rfl, t⟩ | ⟨rfl, t⟩ | t
  · have V := hide (show decide (a * 18446744073709551616 + b < c * 18446744073709551616 + d) = true from decide_eq_true (by omega))
    go_enter Tryd.func77, Tryd.ntmps77
    go_wp2
    go_ret
    exact ⟨ret_bool V.out.symm, by have HX := X.1; have hz := HX.size; go_grown⟩
  · have V := hide (show decide (a * 18446744073709551616 + b < a * 18446744073709551616 + d) = true from decide_eq_true (by omega))
    go_enter Tryd.func77, Tryd.ntmps77
    go_wp2
    go_ret
    exact ⟨ret_bool (by first | (rw [V.out]; done) | (simp; omega)), by have HX := X.1; have hz := HX.size; go_grown⟩
  · have V := hide (show decide (a * 18446744073709551616 + b < a * 18446744073709551616 + d) = false from decide_eq_false (by omega))
    go_enter Tryd.func77, Tryd.ntmps77
    go_wp2
    go_ret
    exact ⟨ret_bool (by first | (rw [V.out]; done) | (simp; omega)), by have HX := X.1; have hz := HX.size; go_grown⟩
  · have V := hide (show decide (a * 18446744073709551616 + b < c * 18446744073709551616 + d) = false from decide_eq_false (by omega))
    have q1 : ((a : Int) == (c : Int)) = false := by simp; omega
    have q2 : ¬ (a : Int) < (c : Int) := by omega
    go_enter Tryd.func77, Tryd.ntmps77
    go_wp2
    go_ret
    exact ⟨ret_bool (by first | (rw [V.out]; done) | (simp; omega)), by have HX := X.1; have hz := HX.size; go_grown⟩
set_option maxHeartbeats 400000 in
theorem r3plus_any (a b c d : Nat) (w : World) (hb : b < 18446744073709551616) (hd : d < 18446744073709551616) :
    Calls Tryd.prog 65 #[Ud a b, Ud c d] w fun e w' => (∃ h l : Nat, e = .returned (Ud h l) ∧ Wd h l ((a * 18446744073709551616 + b + (c * 18446744073709551616 + d)) % 340282366920938463463374607431768211456)) ∧ Below w.heap.size w w' := by
  have X := (((Own.start w).alloc #[.int .u64 (a : Int), .int .u64 (b : Int)] 57).alloc #[.int .u64 (c : Int), .int .u64 (d : Int)] 57).alloc #[.int .u64 0, .int .u64 0] 57
  simp only [World.size_alloc] at X
  have hr := X.r3
  obtain ⟨l, hl⟩ : ∃ l : Nat, l = (b + d) % 18446744073709551616 := ⟨_, rfl⟩
  obtain ⟨p, hp⟩ : ∃ p : Nat, p = (a + c) % 18446744073709551616 := ⟨_, rfl⟩
  obtain ⟨h, hh⟩ : ∃ h : Nat, h = (a + c + 1) % 18446744073709551616 := ⟨_, rfl⟩
  have e1 : IntKind.u64.wrap ((b : Int) + (d : Int)) = (l : Int) := e_add hl
  have e2 : IntKind.u64.wrap ((a : Int) + (c : Int)) = (p : Int) := e_add hp
  have e3 : IntKind.u64.wrap ((p : Int) + 1) = (h : Int) := e_add (y := 1) (by omega)
  by_cases t : (l : Int) < (b : Int)
  · have V := hide (show Wd h l ((a * 18446744073709551616 + b + (c * 18446744073709551616 + d)) % 340282366920938463463374607431768211456) from ⟨by omega, by omega, by omega⟩)
    clear hl hp hh hb hd
    go_enter Tryd.func65, Tryd.ntmps65
    go_wp2
    exact bodyPost_ret (v := Ud h l) (by simp [results, Tryd.results65, go_sem]) rfl ⟨⟨h, l, rfl, V.out⟩, by have HX := X.1; have hz := HX.size; go_grown⟩
  · have V := hide (show Wd p l ((a * 18446744073709551616 + b + (c * 18446744073709551616 + d)) % 340282366920938463463374607431768211456) from ⟨by omega, by omega, by omega⟩)
    clear hl hp hh hb hd e3
    go_enter Tryd.func65, Tryd.ntmps65
    go_wp2
    exact bodyPost_ret (v := Ud p l) (by simp [results, Tryd.results65, go_sem]) rfl ⟨⟨p, l, rfl, V.out⟩, by have HX := X.1; have hz := HX.size; go_grown⟩
set_option maxHeartbeats 400000 in
theorem r3minus_any (a b c d : Nat) (w : World) (ha : a < 18446744073709551616) (hb : b < 18446744073709551616) (hc : c < 18446744073709551616) (hd : d < 18446744073709551616) :
    Calls Tryd.prog 78 #[Ud a b, Ud c d] w fun e w' => (∃ h l : Nat, e = .returned (Ud h l) ∧ Wd h l ((a * 18446744073709551616 + b + 340282366920938463463374607431768211456 - (c * 18446744073709551616 + d)) % 340282366920938463463374607431768211456)) ∧ Below w.heap.size w w' := by
  have X := (((Own.start w).alloc #[.int .u64 (a : Int), .int .u64 (b : Int)] 57).alloc #[.int .u64 (c : Int), .int .u64 (d : Int)] 57).alloc #[.int .u64 0, .int .u64 0] 57
  simp only [World.size_alloc] at X
  have hr := X.r3
  obtain ⟨l, hl⟩ : ∃ l : Nat, l = (b + 18446744073709551616 - d) % 18446744073709551616 := ⟨_, rfl⟩
  obtain ⟨p, hp⟩ : ∃ p : Nat, p = (a + 18446744073709551616 - c) % 18446744073709551616 := ⟨_, rfl⟩
  obtain ⟨h, hh⟩ : ∃ h : Nat, h = (a + 18446744073709551616 + 18446744073709551616 - c - 1) % 18446744073709551616 := ⟨_, rfl⟩
  have e1 : IntKind.u64.wrap ((b : Int) - (d : Int)) = (l : Int) := by rw [IntKind.wrap_u64]; omega
  have e2 : IntKind.u64.wrap ((a : Int) - (c : Int)) = (p : Int) := by rw [IntKind.wrap_u64]; omega
  have e3 : IntKind.u64.wrap ((p : Int) - 1) = (h : Int) := by rw [IntKind.wrap_u64]; omega
  by_cases t : (b : Int) < (d : Int)
  · have V := hide (show Wd h l ((a * 18446744073709551616 + b + 340282366920938463463374607431768211456 - (c * 18446744073709551616 + d)) % 340282366920938463463374607431768211456) from ⟨by omega, by omega, by omega⟩)
    clear hl hp hh ha hb hc hd
    go_enter Tryd.func78, Tryd.ntmps78
    go_wp2
    exact bodyPost_ret (v := Ud h l) (by simp [results, Tryd.results78, go_sem]) rfl ⟨⟨h, l, rfl, V.out⟩, by have HX := X.1; have hz := HX.size; go_grown⟩
  · have V := hide (show Wd p l ((a * 18446744073709551616 + b + 340282366920938463463374607431768211456 - (c * 18446744073709551616 + d)) % 340282366920938463463374607431768211456) from ⟨by omega, by omega, by omega⟩)
    clear hl hp hh ha hb hc hd e3
    go_enter Tryd.func78, Tryd.ntmps78
    go_wp2
    exact bodyPost_ret (v := Ud p l) (by simp [results, Tryd.results78, go_sem]) rfl ⟨⟨p, l, rfl, V.out⟩, by have HX := X.1; have hz := HX.size; go_grown⟩
set_option maxHeartbeats 1000000 in
theorem r3mul_core (a b ah al bh bl p q r s mid oth H L s1 s0 m1 m0 o1 o2 p1 : Nat) (w : World) (E1 : (a : Int) / 4294967296 = (ah : Int)) (E2 : bits .and .u64 (a : Int) 4294967295 = (al : Int)) (E3 : (b : Int) / 4294967296 = (bh : Int)) (E4 : bits .and .u64 (b : Int) 4294967295 = (bl : Int))
    (E5 : IntKind.u64.wrap ((al : Int) * (bl : Int)) = (s : Int)) (E6 : IntKind.u64.wrap ((ah : Int) * (bl : Int)) = (q : Int)) (E7 : (s : Int) / 4294967296 = (s1 : Int)) (E8 : IntKind.u64.wrap ((q : Int) + (s1 : Int)) = (mid : Int))
    (E9 : IntKind.u64.wrap ((al : Int) * (bh : Int)) = (r : Int)) (E10 : bits .and .u64 (mid : Int) 4294967295 = (m0 : Int)) (E11 : IntKind.u64.wrap ((r : Int) + (m0 : Int)) = (oth : Int))
    (E12 : IntKind.u64.wrap ((ah : Int) * (bh : Int)) = (p : Int)) (E13 : (mid : Int) / 4294967296 = (m1 : Int)) (E14 : IntKind.u64.wrap ((p : Int) + (m1 : Int)) = (p1 : Int)) (E15 : (oth : Int) / 4294967296 = (o1 : Int)) (E16 : IntKind.u64.wrap ((p1 : Int) + (o1 : Int)) = (H : Int))
    (E17 : IntKind.u64.wrap ((oth : Int) * 4294967296) = (o2 : Int)) (E18 : bits .and .u64 (s : Int) 4294967295 = (s0 : Int)) (E19 : IntKind.u64.wrap ((o2 : Int) + (s0 : Int)) = (L : Int)) :
    Calls Tryd.prog 63 #[.int .u64 (a : Int), .int .u64 (b : Int)] w fun e w' => e = .returned (Ud H L) ∧ Below w.heap.size w w' := by
  have X := (Own.start w).alloc #[.int .u64 0, .int .u64 0] 57
  have hr := X.r1
  go_enter Tryd.func63, Tryd.ntmps63
  go_wp2
  exact bodyPost_ret (v := Ud H L) (by simp [results, Tryd.results63, go_sem]) rfl ⟨rfl, by have HX := X.1; have hz := HX.size; go_grown⟩
theorem e_mulw {x y z : Nat} (h : z = x * y) (hz : z < 18446744073709551616) : IntKind.u64.wrap ((x : Int) * (y : Int)) = (z : Int) := by rw [← Int.natCast_mul, ← h]; exact u64_nat hz
theorem e_addw {x y z : Nat} (h : z = x + y) (hz : z < 18446744073709551616) : IntKind.u64.wrap ((x : Int) + (y : Int)) = (z : Int) := by rw [← Int.natCast_add, ← h]; exact u64_nat hz
theorem r3mul_any (a b : Nat) (w : World) (ha : a < 18446744073709551616) (hb : b < 18446744073709551616) :
    Calls Tryd.prog 63 #[.int .u64 (a : Int), .int .u64 (b : Int)] w fun e w' => (∃ h l : Nat, e = .returned (Ud h l) ∧ Wd h l (a * b)) ∧ Below w.heap.size w w' := by
  obtain ⟨ah, al, bh, bl, p, q, r, s, mid, oth, H, L, k1, k2, k3, k4, k5, k6, k7, k8, k9, k10, k11, k12, k13, b1, b2, b3, b4, b5, b6, b7, b8, b9⟩ := mul_words ha hb
  refine (r3mul_core a b ah al bh bl p q r s mid oth H L (s / 4294967296) (s % 4294967296) (mid / 4294967296) (mid % 4294967296) (oth / 4294967296) (oth * 4294967296 % 18446744073709551616) (p + mid / 4294967296) w
    (e_div (a := 4294967296) k1) (by rw [k2]; exact u64_and32 ha) (e_div (a := 4294967296) k3) (by rw [k4]; exact u64_and32 hb)
    (e_mulw k5 b1) (e_mulw k6 b2) (e_div (a := 4294967296) rfl) (e_addw k7 b3)
    (e_mulw k8 b4) (u64_and32 b3) (e_addw k9 b5)
    (e_mulw k10 b6) (e_div (a := 4294967296) rfl) (e_addw rfl b7) (e_div (a := 4294967296) rfl) (e_addw k11 b8)
    (e_mul32 rfl) (u64_and32 b1) (e_addw k12 b9)).mono ?_
  rintro e w' ⟨rfl, hb⟩
  exact ⟨⟨H, L, rfl, b8, b9, k13⟩, hb⟩
set_option maxHeartbeats 400000 in
theorem r3shift_any (a b c : Nat) (w : World) (hb : b < 18446744073709551616) (hc : c ≤ 1) :
    Calls Tryd.prog 76 #[Ud a b, .int .u64 (c : Int)] w fun e w' => (∃ h l : Nat, e = .returned (Ud h l) ∧ Wd h l ((a * 18446744073709551616 + b) * 2 % 340282366920938463463374607431768211456 + c)) ∧ Below w.heap.size w w' := by
  have X := ((Own.start w).alloc #[.int .u64 (a : Int), .int .u64 (b : Int)] 57).alloc #[.int .u64 0, .int .u64 0] 57
  simp only [World.size_alloc] at X
  have hr := X.r2
  obtain ⟨p, hp⟩ : ∃ p : Nat, p = a * 2 % 18446744073709551616 := ⟨_, rfl⟩
  obtain ⟨k, hk⟩ : ∃ k : Nat, k = b / 9223372036854775808 := ⟨_, rfl⟩
  obtain ⟨h, hh⟩ : ∃ h : Nat, h = p + k := ⟨_, rfl⟩
  obtain ⟨q, hq⟩ : ∃ q : Nat, q = b * 2 % 18446744073709551616 := ⟨_, rfl⟩
  obtain ⟨l, hl⟩ : ∃ l : Nat, l = q + c := ⟨_, rfl⟩
  have e1 : IntKind.u64.wrap ((a : Int) * 2) = (p : Int) := e_mul (y := 2) hp
  have e2 : (b : Int) / 9223372036854775808 = (k : Int) := e_div (a := 9223372036854775808) hk
  have e3 : IntKind.u64.wrap ((p : Int) + (k : Int)) = (h : Int) := e_addw hh (by omega)
  have e4 : IntKind.u64.wrap ((b : Int) * 2) = (q : Int) := e_mul (y := 2) hq
  have e5 : IntKind.u64.wrap ((q : Int) + (c : Int)) = (l : Int) := e_addw hl (by omega)
  have V := hide (show Wd h l ((a * 18446744073709551616 + b) * 2 % 340282366920938463463374607431768211456 + c) from ⟨by omega, by omega, by omega⟩)
  clear hp hk hh hq hl hb hc
  go_enter Tryd.func76, Tryd.ntmps76
  go_wp2
  exact bodyPost_ret (v := Ud h l) (by simp [results, Tryd.results76, go_sem]) rfl ⟨⟨h, l, rfl, V.out⟩, by have HX := X.1; have hz := HX.size; go_grown⟩
end Go.Proofs.YtgflgnbbkhikcaaDoor
